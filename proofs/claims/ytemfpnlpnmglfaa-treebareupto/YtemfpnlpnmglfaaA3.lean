/- States and worlds: what holds of a world at a state ('Inv'), what a step may turn ('Mv'), what an activation's temporaries are ('FrameR'). -/
import Derived.Test.YtemfpnlpnmglfaaA2
set_option linter.unusedVariables false
set_option linter.unusedSimpArgs false
namespace Go.Am
open Go Go.RowKit

/-! ### the types' table is the program's -/

def KOk (P : Program) (t : TypeId) : TK → Prop
  | .bad => True
  | .bool => P.underlying t = some .bool
  | .int k => P.underlying t = some (.int k)
  | .str => P.underlying t = some .string
  | .ptr => ∃ e, P.underlying t = some (.pointer e)
  | .slice e => P.underlying t = some (.slice e)
  | .struct fs => ∃ fields : Array Field, P.underlying t = some (.struct fields) ∧ fields.toList.map (fun f => (f.offset, f.type)) = fs
  | .array n e => P.underlying t = some (.array n e)
  | .map k e => P.underlying t = some (.map k e)
  | .func => ∃ a b c, P.underlying t = some (.func a b c)
  | .iface => ∃ m, P.underlying t = some (.interface m)

structure TyOK (P : Program) (C : Cfg) (t : TypeId) : Prop where
  bad : (C.ti t).k = .bad → (C.ti t).size = 0
  kind : KOk P t (C.ti t).k
  elem : ∀ e, (C.ti t).k = .slice e → (P.info? e).isSome = true
  flds : ∀ fields : Array Field, P.underlying t = some (.struct fields) → (C.ti t).k ≠ .bad → ∀ f ∈ fields.toList, (P.info? f.type).isSome = true
  info : (C.ti t).k ≠ .bad → ∃ i z, P.info? t = some i ∧ i.size = (C.ti t).size ∧ i.bytes = (C.ti t).bytes ∧ i.zero = some z ∧ z.cells.size = (C.ti t).size ∧ (∀ κ, VRl κ (C.ti t).zero z.cells.toList) ∧ Ones z.cells.toList ∧
    ((C.ti t).isAgg = true → ∃ cs, z = .agg cs) ∧ ((C.ti t).isAgg = false → z.oneCell' = true ∧ (C.ti t).size = 1)
  flat : (C.ti t).flat ≠ [] → P.eqGuardType P.depth t = false ∧ P.stoodInHeld t = false ∧
    ∃ fields : Array Field, P.underlying t = some (.struct fields) ∧ (∀ f ∈ fields.toList, f.name ≠ "_") ∧ fields.toList.map (·.offset) = List.range (C.ti t).flat.length ∧ fields.toList.map (fun f => (C.ti f.type).k) = (C.ti t).flat

/-! ### the invariant -/

def MR (κ : Kn) : List (AV × AV × Nat) → List MapEntry → Prop
  | [], es => es = []
  | (k, v, b) :: r, es => ∃ x xs, es = x :: xs ∧ VR κ k x.key ∧ VR κ v x.val ∧ x.born = b ∧ MR κ r xs

theorem MR.mono {κ κ' : Kn} (h : LE κ κ') : ∀ {l : List (AV × AV × Nat)} {es : List MapEntry}, MR κ l es → MR κ' l es
  | [], _, k => k
  | (_, _, _) :: _, _, ⟨x, xs, h1, h2, h3, h4, h5⟩ => ⟨x, xs, h1, VR.mono h _ _ h2, VR.mono h _ _ h3, h4, MR.mono h h5⟩

def LStR : LSt → LoopState → Prop
  | .ready, x => x = .ready
  | .busy, x => x = .busy
  | .done, x => x = .done
  | .exhausted, x => x = .exhausted

def PendR : Option AExit → Option Code → Prop
  | none, x => x = none
  | some .ret, x => x = some .ret
  | some (.exit id), x => x = some (.exit id)
  | some .normal, _ => False

/-- an entry that names no variable of the activation's own -/
def EntR0 (κ : Kn) : Ent → Value → Prop
  | .none, _ => True
  | .s v, x => SR κ v x
  | _, _ => False

theorem EntR0.mono {κ κ' : Kn} (h : LE κ κ') : ∀ {e : Ent} {v : Value}, EntR0 κ e v → EntR0 κ' e v
  | .none, _, _ => trivial
  | .s _, _, k => SR.mono h k
  | .var _, _, k => k.elim
  | .ptr _ _ _, _, k => k.elim

def ObjR (C : Cfg) (κ : Kn) (o : Go.Obj) : Obj → Prop
  | .var cells => ∃ cs t, o = .cells cs t (0, 0) ∧ SRs κ cells cs.toList ∧ Ones cs.toList
  | .map es clock => ∃ mes, o = .map mes clock ∧ MR κ es mes.toList
  | .loop st pend f env ps asg body => ∃ L : Loop, o = .loop L ∧ LStR st L.state ∧ PendR pend L.pending ∧ L.params.toList = ps ∧ L.assign = asg ∧ L.body = body ∧ (∃ N, L.tmps.size = N ∧ okCode C f N asg = true ∧ okCode C f N body = true ∧ ∀ p ∈ ps, p < N) ∧ ∀ i, EntR0 κ (env.get i) (L.tmps.getD i undef)
  | .dead => True

theorem ObjR.mono {C : Cfg} {κ κ' : Kn} (h : LE κ κ') {o : Go.Obj} : ∀ {x : Obj}, ObjR C κ o x → ObjR C κ' o x
  | .var _, ⟨cs, t, h1, h2, h3⟩ => ⟨cs, t, h1, h2.mono h, h3⟩
  | .map _ _, ⟨mes, h1, h2⟩ => ⟨mes, h1, h2.mono h⟩
  | .loop _ _ _ _ _ _ _, ⟨L, h1, h2, h3, h5, h6, h7, hn, h8⟩ => ⟨L, h1, h2, h3, h5, h6, h7, hn, fun i => (h8 i).mono h⟩
  | .dead, _ => trivial

/-- the blocks that may be written -/
def Wr (κ : Kn) (b : Nat) : Prop := (∃ l, κ.loc l = some b) ∨ ∃ k L e v, κ.tok k = some (L, e, v) ∧ v.ownBlock = some b

structure Inv (C : Cfg) (κ : Kn) (B : Nat) (s : St) (w : World) : Prop where
  im : ∀ b o v, κ.im b o = some v → w.cell? ⟨b, o, none⟩ = some v
  locs : ∀ l x, s.locs[l]? = some x → ∃ b o, κ.loc l = some b ∧ B ≤ b ∧ w.heap[b]? = some o ∧ ObjR C κ o x
  locn : ∀ l b, κ.loc l = some b → l < s.locs.length
  toks : ∀ k L, s.toks[k]? = some L → ∃ e v xs g, κ.tok k = some (L, e, v) ∧ w.ownsRow B e (C.ti e).size v L xs ∧ v.ownBlock = some g ∧ 0 < (C.ti e).size ∧ Ones xs ∧
    (∀ j u, xs[j]? = some u → κ.im g j = some u) ∧ (∀ o, L * (C.ti e).size ≤ o → κ.im g o = none)
  tokn : ∀ k L e v, κ.tok k = some (L, e, v) → s.toks[k]? = some L
  locinj : ∀ i j b, κ.loc i = some b → κ.loc j = some b → i = j
  tokinj : ∀ i j L e v L' e' v' b, κ.tok i = some (L, e, v) → κ.tok j = some (L', e', v') → v.ownBlock = some b → v'.ownBlock = some b → i = j
  loctok : ∀ l b k L e v, κ.loc l = some b → κ.tok k = some (L, e, v) → v.ownBlock ≠ some b
  locim : ∀ l b o, κ.loc l = some b → κ.im b o = none

theorem Inv.wr_lt {C : Cfg} {κ : Kn} {B : Nat} {s : St} {w : World} (h : Inv C κ B s w) {b : Nat} (hb : Wr κ b) : B ≤ b ∧ b < w.heap.size := by
  rcases hb with ⟨l, hl⟩ | ⟨k, L, e, v, hk, hv⟩
  · have hlt := h.locn l b hl
    obtain ⟨b', o, h1, h2, h3, _⟩ := h.locs l _ (List.getElem?_eq_getElem hlt)
    rw [hl] at h1
    cases h1
    exact ⟨h2, (Array.getElem?_eq_some_iff.1 h3).1⟩
  · obtain ⟨e', v', xs, g, h1, h2, h3, _⟩ := h.toks k L (h.tokn k L e v hk)
    rw [hk] at h1
    cases h1
    rw [hv] at h3
    cases h3
    exact h2.lt b hv

theorem Inv.im_lt {C : Cfg} {κ : Kn} {B : Nat} {s : St} {w : World} (h : Inv C κ B s w) {b o : Nat} {v : Value} (k : κ.im b o = some v) : b < w.heap.size :=
  World.block_lt_of_cell? w ⟨b, o, none⟩ (h.im b o v k)

/-- what a step from w to w' may turn, and what is known behind it -/
structure Mv (κ κ' : Kn) (w w' : World) : Prop where
  le : LE κ κ'
  os : w'.os = w.os
  tape : w'.tape = w.tape
  output : w'.output = w.output
  size : w.heap.size ≤ w'.heap.size
  frame : ∀ b, b < w.heap.size → ¬ Wr κ b → w'.heap[b]? = w.heap[b]?
  newW : ∀ b, Wr κ' b → Wr κ b ∨ w.heap.size ≤ b
  newim : ∀ b o v, κ'.im b o = some v → b < w.heap.size → ¬ Wr κ b → κ.im b o = some v

theorem Mv.refl (κ : Kn) (w : World) : Mv κ κ w w := ⟨.refl κ, rfl, rfl, rfl, Nat.le_refl _, fun _ _ _ => rfl, fun _ h => .inl h, fun _ _ _ h _ _ => h⟩
theorem Mv.drew (κ : Kn) (w : World) : Mv κ κ w w.drew := ⟨.refl κ, rfl, rfl, rfl, Nat.le_refl _, fun _ _ _ => rfl, fun _ h => .inl h, fun _ _ _ h _ _ => h⟩

theorem Mv.trans {a b c : Kn} {u v w : World} (h : Mv a b u v) (k : Mv b c v w) : Mv a c u w := by
  have hn : ∀ x, x < u.heap.size → ¬ Wr a x → ¬ Wr b x := fun x hx hw hb => by
    rcases h.newW x hb with h1 | h1
    · exact hw h1
    · omega
  refine ⟨h.le.trans k.le, k.os.trans h.os, k.tape.trans h.tape, k.output.trans h.output, Nat.le_trans h.size k.size, ?_, ?_, ?_⟩
  · intro x hx hw
    have hs := h.size
    rw [k.frame x (by omega) (hn x hx hw), h.frame x hx hw]
  · intro x hx
    have hs := h.size
    rcases k.newW x hx with h1 | h1
    · exact h.newW x h1
    · exact .inr (by omega)
  · intro x o v hv hx hw
    have hs := h.size
    exact h.newim x o v (k.newim x o v hv (by omega) (hn x hx hw)) hx hw

theorem Inv.drew {C : Cfg} {κ : Kn} {B : Nat} {s : St} {w : World} (h : Inv C κ B s w) : Inv C κ B s w.drew :=
  ⟨h.im, h.locs, h.locn, h.toks, h.tokn, h.locinj, h.tokinj, h.loctok, h.locim⟩

/-! ### an activation -/

def EntR (κ : Kn) (w : World) (β : Nat → Option Nat) (i : Nat) : Ent → Value → Prop
  | .none, _ => True
  | .s v, x => SR κ v x
  | .var cells, x => ∃ b cs t, β i = some b ∧ x = .pointer (some ⟨b, 0, none⟩) ∧ w.heap[b]? = some (.cells cs t (0, 0)) ∧ SRs κ cells cs.toList ∧ Ones cs.toList
  | .ptr g d off, x => g = true → ∃ b, β d = some b ∧ x = .pointer (some ⟨b, off, none⟩)

def mark (r : Nat) : Deferred := { target := .collected r, args := #[] }

structure FrameR (κ : Kn) (B : Nat) (w : World) (N : Nat) (e : Env) (a : Act) (β : Nat → Option Nat) (δ : List Nat) : Prop where
  size : a.tmps.size = N
  ent : ∀ i, EntR κ w β i (e.get i) (a.tmps.getD i undef)
  ptr : ∀ i g d off, e.get i = .ptr g d off → e.get d ≠ .none
  priv : ∀ i b, β i = some b → B ≤ b ∧ b < w.heap.size ∧ ¬ Wr κ b ∧ ∀ o, κ.im b o = none
  inj : ∀ i j b, β i = some b → β j = some b → i = j
  defers : a.defers = δ.map mark
  dpriv : ∀ r ∈ δ, B ≤ r ∧ w.heap[r]? = some (.deferred (some [])) ∧ ¬ Wr κ r ∧ (∀ o, κ.im r o = none) ∧ ∀ i, β i ≠ some r
  dnodup : δ.Nodup

theorem EntR.move {κ κ' : Kn} {w w' : World} {β : Nat → Option Nat} {i : Nat} (hm : Mv κ κ' w w') (hp : ∀ i b, β i = some b → b < w.heap.size ∧ ¬ Wr κ b) :
    ∀ {e : Ent} {v : Value}, EntR κ w β i e v → EntR κ' w' β i e v
  | .none, _, _ => trivial
  | .s _, _, h => SR.mono hm.le h
  | .var _, _, ⟨b, cs, t, h1, h2, h3, h4, h5⟩ => ⟨b, cs, t, h1, h2, by rw [hm.frame b (hp i b h1).1 (hp i b h1).2]; exact h3, h4.mono hm.le, h5⟩
  | .ptr _ _ _, _, h => h

theorem FrameR.move {κ κ' : Kn} {B N : Nat} {w w' : World} {e : Env} {a : Act} {β : Nat → Option Nat} {δ : List Nat} (h : FrameR κ B w N e a β δ) (hm : Mv κ κ' w w') : FrameR κ' B w' N e a β δ := by
  have nw : ∀ b, b < w.heap.size → ¬ Wr κ b → ¬ Wr κ' b := fun b hb hw h' => by
    rcases hm.newW b h' with h1 | h1
    · exact hw h1
    · omega
  have ni : ∀ b, b < w.heap.size → ¬ Wr κ b → (∀ o, κ.im b o = none) → ∀ o, κ'.im b o = none := fun b hb hw hi o => by
    cases hx : κ'.im b o with
    | none => rfl
    | some v => have := hm.newim b o v hx hb hw; rw [hi o] at this; cases this
  refine ⟨h.size, fun i => (h.ent i).move hm (fun j b hb => ⟨(h.priv j b hb).2.1, (h.priv j b hb).2.2.1⟩), h.ptr, ?_, h.inj, h.defers, ?_, h.dnodup⟩
  · intro i b hb
    obtain ⟨h1, h2, h3, h4⟩ := h.priv i b hb
    exact ⟨h1, Nat.lt_of_lt_of_le h2 hm.size, nw b h2 h3, ni b h2 h3 h4⟩
  · intro r hr
    obtain ⟨h1, h2, h3, h4, h5⟩ := h.dpriv r hr
    have hlt := (Array.getElem?_eq_some_iff.1 h2).1
    exact ⟨h1, by rw [hm.frame r hlt h3]; exact h2, nw r hlt h3, ni r hlt h3 h4, h5⟩

/-- a temporary is set -/
theorem FrameR.setT {κ : Kn} {B N : Nat} {w : World} {e : Env} {a : Act} {β : Nat → Option Nat} {δ : List Nat} (h : FrameR κ B w N e a β δ) (dst : Option Tmp) (hd : ∀ d, dst = some d → d < N) {v : Slot} {x : Value} (hv : SR κ v x) :
    FrameR κ B w N (put dst (.s v) e) (a.put dst x) β δ := by
  cases dst with
  | none => exact h
  | some d =>
    have hlt : d < a.tmps.size := by rw [h.size]; exact hd d rfl
    have hg : ∀ i, (put (some d) (.s v) e).get i = if d = i then .s v else e.get i := fun i => by
      simp only [Am.put, Env.get]
      by_cases hi : d = i
      · subst hi; simp
      · have : Nat.beq d i = false := by
          cases hb : Nat.beq d i with
          | false => rfl
          | true => exact absurd (Nat.eq_of_beq_eq_true hb) hi
        simp [this, hi]
    refine ⟨by simp [Act.put, h.size], fun i => ?_, fun i g d' off hi => ?_, h.priv, h.inj, h.defers, h.dpriv, h.dnodup⟩
    · rw [hg]
      by_cases hi : d = i
      · subst hi
        simp only [if_true, Act.put, Array.getD_eq_getD_getElem?, Array.getElem?_setIfInBounds_self, hlt, if_true, Option.getD_some]
        exact hv
      · simp only [hi, if_false]
        have := h.ent i
        simp only [Act.put, Array.getD_eq_getD_getElem?, Array.getElem?_setIfInBounds_ne hi] at this ⊢
        exact this
    · rw [hg] at hi
      by_cases hi' : d = i
      · simp [hi'] at hi
      · simp only [hi', if_false] at hi
        rw [hg]
        by_cases hd' : d = d'
        · simp [hd']
        · simp only [hd', if_false]
          exact h.ptr i g d' off hi

end Go.Am
