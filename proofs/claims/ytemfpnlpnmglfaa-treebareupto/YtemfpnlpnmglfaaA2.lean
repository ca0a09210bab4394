/- How the abstract machine's values stand to the model's: what a value is in memory ('VR'), what a state is ('Inv'), what a step keeps ('Mv'). -/
import Derived.Test.YtemfpnlpnmglfaaA1
import Derived.Laws.AppendOwn
import Derived.Below
import Derived.RangeFuncLeaves
import Derived.RangeFuncOwn
import Derived.MapKept
import Derived.Laws.Tables
import Derived.Laws.Rows
import Derived.WideLaws
set_option linter.unusedVariables false
set_option linter.unusedSimpArgs false
namespace Go.Am
open Go

/-- What is known of memory: which cells are constant; in which blocks the shared variables lie; how far each token's slice reaches, its elements' type, and the slice. -/
structure Kn where
  im : Nat → Nat → Option Value
  loc : Nat → Option Nat
  tok : Nat → Option (Nat × TypeId × Value)

def Held (κ : Kn) (a : Addr) (vs : List Value) : Prop := ∀ j u, vs[j]? = some u → κ.im a.block (a.off + j) = some u
def Ones (vs : List Value) : Prop := ∀ u ∈ vs, u.oneCell' = true

mutual
def VR (κ : Kn) : AV → Value → Prop
  | .bool b, v => v = .bool b
  | .int k n, v => v = .int k n
  | .str s, v => ∃ x : ByteArray, x.data.toList = s ∧ v = .string x
  | .agg l, v => ∃ vs : List Value, VRl κ l vs ∧ Ones vs ∧ v = .agg vs.toArray
  | .tup l, v => ∃ vs : List Value, VRl κ l vs ∧ v = .tuple vs.toArray
  | .nils, v => v = .slice none 0 0
  | .sl l, v => ∃ a n c sz, ∃ vs : List Value, v = .slice (some a) n c ∧ l.length = n ∧ n ≤ c ∧ (0 < n → a.spot = none) ∧ (∀ x ∈ l, x.cells.length = sz) ∧ Held κ a vs ∧ Ones vs ∧ VRr κ l vs
  | .nilp, v => v = .pointer none
  | .cp l, v => ∃ a, ∃ vs : List Value, v = .pointer (some a) ∧ a.spot = none ∧ Held κ a vs ∧ Ones vs ∧ VRl κ l vs
  | .vp loc off, v => ∃ b, κ.loc loc = some b ∧ v = .pointer (some ⟨b, off, none⟩)
  | .nilf, v => v = .nilFunc
  | .fn f caps, v => ∃ vs : List Value, VRl κ caps vs ∧ v = .func (.func f) #[] vs.toArray
  | .yld loc, v => ∃ b, κ.loc loc = some b ∧ v = .func (.yield b) #[] #[]
  | .nilm, v => v = .map none
  | .mp loc, v => ∃ b, κ.loc loc = some b ∧ v = .map (some b)
  | .nili, v => v = .nilIface
  | .ifc t x, v => ∃ u, VR κ x u ∧ v = .iface t u
def VRl (κ : Kn) : List AV → List Value → Prop
  | [], vs => vs = []
  | x :: r, vs => ∃ u us, vs = u :: us ∧ VR κ x u ∧ VRl κ r us
def VRr (κ : Kn) : List AV → List Value → Prop
  | [], vs => vs = []
  | x :: r, vs => ∃ a b, vs = a ++ b ∧ (match x with | .agg l => VRl κ l a | x => ∃ u, a = [u] ∧ VR κ x u) ∧ VRr κ r b
end

structure LE (κ κ' : Kn) : Prop where
  im : ∀ b o v, κ.im b o = some v → κ'.im b o = some v
  loc : ∀ l b, κ.loc l = some b → κ'.loc l = some b
  tok : ∀ k L e v, κ.tok k = some (L, e, v) → ∃ L' v', κ'.tok k = some (L', e, v') ∧ L ≤ L' ∧ (L' = L → v' = v)

theorem LE.refl (κ : Kn) : LE κ κ := ⟨fun _ _ _ h => h, fun _ _ h => h, fun _ L _ v h => ⟨L, v, h, Nat.le_refl _, fun _ => rfl⟩⟩
theorem LE.trans {a b c : Kn} (h : LE a b) (k : LE b c) : LE a c where
  im := fun _ _ _ x => k.im _ _ _ (h.im _ _ _ x)
  loc := fun _ _ x => k.loc _ _ (h.loc _ _ x)
  tok := fun i L e v x => by
    obtain ⟨L', v', h1, h2, h3⟩ := h.tok i L e v x
    obtain ⟨L'', v'', k1, k2, k3⟩ := k.tok i L' e v' h1
    exact ⟨L'', v'', k1, by omega, fun e => (k3 (by omega)).trans (h3 (by omega))⟩

theorem Held.mono {κ κ' : Kn} (h : LE κ κ') {a : Addr} {vs : List Value} (k : Held κ a vs) : Held κ' a vs := fun j u hu => h.im _ _ _ (k j u hu)

mutual
theorem VR.mono {κ κ' : Kn} (h : LE κ κ') : ∀ (a : AV) (v : Value), VR κ a v → VR κ' a v
  | .bool _, _, hv => by simpa only [VR] using hv
  | .int _ _, _, hv => by simpa only [VR] using hv
  | .str _, _, hv => by simpa only [VR] using hv
  | .agg l, _, hv => by
    simp only [VR] at hv ⊢
    obtain ⟨vs, h1, h2⟩ := hv
    exact ⟨vs, VRl.mono h l vs h1, h2⟩
  | .tup l, _, hv => by
    simp only [VR] at hv ⊢
    obtain ⟨vs, h1, h2⟩ := hv
    exact ⟨vs, VRl.mono h l vs h1, h2⟩
  | .nils, _, hv => by simpa only [VR] using hv
  | .sl l, _, hv => by
    simp only [VR] at hv ⊢
    obtain ⟨a, n, c, sz, vs, h1, h2, h3, h4, h5, h6, h7, h8⟩ := hv
    exact ⟨a, n, c, sz, vs, h1, h2, h3, h4, h5, h6.mono h, h7, VRr.mono h l vs h8⟩
  | .nilp, _, hv => by simpa only [VR] using hv
  | .cp l, _, hv => by
    simp only [VR] at hv ⊢
    obtain ⟨a, vs, h1, h2, h3, h4, h5⟩ := hv
    exact ⟨a, vs, h1, h2, h3.mono h, h4, VRl.mono h l vs h5⟩
  | .vp _ _, _, hv => by
    simp only [VR] at hv ⊢
    obtain ⟨b, h1, h2⟩ := hv
    exact ⟨b, h.loc _ _ h1, h2⟩
  | .nilf, _, hv => by simpa only [VR] using hv
  | .fn _ caps, _, hv => by
    simp only [VR] at hv ⊢
    obtain ⟨vs, h1, h2⟩ := hv
    exact ⟨vs, VRl.mono h caps vs h1, h2⟩
  | .yld _, _, hv => by
    simp only [VR] at hv ⊢
    obtain ⟨b, h1, h2⟩ := hv
    exact ⟨b, h.loc _ _ h1, h2⟩
  | .nilm, _, hv => by simpa only [VR] using hv
  | .mp _, _, hv => by
    simp only [VR] at hv ⊢
    obtain ⟨b, h1, h2⟩ := hv
    exact ⟨b, h.loc _ _ h1, h2⟩
  | .nili, _, hv => by simpa only [VR] using hv
  | .ifc _ x, _, hv => by
    simp only [VR] at hv ⊢
    obtain ⟨u, h1, h2⟩ := hv
    exact ⟨u, VR.mono h x u h1, h2⟩
theorem VRl.mono {κ κ' : Kn} (h : LE κ κ') : ∀ (l : List AV) (vs : List Value), VRl κ l vs → VRl κ' l vs
  | [], _, hv => by simpa only [VRl] using hv
  | x :: r, _, hv => by
    simp only [VRl] at hv ⊢
    obtain ⟨u, us, h1, h2, h3⟩ := hv
    exact ⟨u, us, h1, VR.mono h x u h2, VRl.mono h r us h3⟩
theorem VRr.mono {κ κ' : Kn} (h : LE κ κ') : ∀ (l : List AV) (vs : List Value), VRr κ l vs → VRr κ' l vs
  | [], _, hv => by simpa only [VRr] using hv
  | .agg l :: r, _, hv => by
    simp only [VRr] at hv ⊢
    obtain ⟨a, b, h1, h2, h3⟩ := hv
    exact ⟨a, b, h1, VRl.mono h l a h2, VRr.mono h r b h3⟩
  | .bool x :: r, _, hv => by simp only [VRr] at hv ⊢; obtain ⟨a, b, h1, ⟨u, h2, h4⟩, h3⟩ := hv; exact ⟨a, b, h1, ⟨u, h2, VR.mono h (.bool x) u h4⟩, VRr.mono h r b h3⟩
  | .int k x :: r, _, hv => by simp only [VRr] at hv ⊢; obtain ⟨a, b, h1, ⟨u, h2, h4⟩, h3⟩ := hv; exact ⟨a, b, h1, ⟨u, h2, VR.mono h (.int k x) u h4⟩, VRr.mono h r b h3⟩
  | .str x :: r, _, hv => by simp only [VRr] at hv ⊢; obtain ⟨a, b, h1, ⟨u, h2, h4⟩, h3⟩ := hv; exact ⟨a, b, h1, ⟨u, h2, VR.mono h (.str x) u h4⟩, VRr.mono h r b h3⟩
  | .tup x :: r, _, hv => by simp only [VRr] at hv ⊢; obtain ⟨a, b, h1, ⟨u, h2, h4⟩, h3⟩ := hv; exact ⟨a, b, h1, ⟨u, h2, VR.mono h (.tup x) u h4⟩, VRr.mono h r b h3⟩
  | .nils :: r, _, hv => by simp only [VRr] at hv ⊢; obtain ⟨a, b, h1, ⟨u, h2, h4⟩, h3⟩ := hv; exact ⟨a, b, h1, ⟨u, h2, VR.mono h .nils u h4⟩, VRr.mono h r b h3⟩
  | .sl x :: r, _, hv => by simp only [VRr] at hv ⊢; obtain ⟨a, b, h1, ⟨u, h2, h4⟩, h3⟩ := hv; exact ⟨a, b, h1, ⟨u, h2, VR.mono h (.sl x) u h4⟩, VRr.mono h r b h3⟩
  | .nilp :: r, _, hv => by simp only [VRr] at hv ⊢; obtain ⟨a, b, h1, ⟨u, h2, h4⟩, h3⟩ := hv; exact ⟨a, b, h1, ⟨u, h2, VR.mono h .nilp u h4⟩, VRr.mono h r b h3⟩
  | .cp x :: r, _, hv => by simp only [VRr] at hv ⊢; obtain ⟨a, b, h1, ⟨u, h2, h4⟩, h3⟩ := hv; exact ⟨a, b, h1, ⟨u, h2, VR.mono h (.cp x) u h4⟩, VRr.mono h r b h3⟩
  | .vp x y :: r, _, hv => by simp only [VRr] at hv ⊢; obtain ⟨a, b, h1, ⟨u, h2, h4⟩, h3⟩ := hv; exact ⟨a, b, h1, ⟨u, h2, VR.mono h (.vp x y) u h4⟩, VRr.mono h r b h3⟩
  | .nilf :: r, _, hv => by simp only [VRr] at hv ⊢; obtain ⟨a, b, h1, ⟨u, h2, h4⟩, h3⟩ := hv; exact ⟨a, b, h1, ⟨u, h2, VR.mono h .nilf u h4⟩, VRr.mono h r b h3⟩
  | .fn x y :: r, _, hv => by simp only [VRr] at hv ⊢; obtain ⟨a, b, h1, ⟨u, h2, h4⟩, h3⟩ := hv; exact ⟨a, b, h1, ⟨u, h2, VR.mono h (.fn x y) u h4⟩, VRr.mono h r b h3⟩
  | .yld x :: r, _, hv => by simp only [VRr] at hv ⊢; obtain ⟨a, b, h1, ⟨u, h2, h4⟩, h3⟩ := hv; exact ⟨a, b, h1, ⟨u, h2, VR.mono h (.yld x) u h4⟩, VRr.mono h r b h3⟩
  | .nilm :: r, _, hv => by simp only [VRr] at hv ⊢; obtain ⟨a, b, h1, ⟨u, h2, h4⟩, h3⟩ := hv; exact ⟨a, b, h1, ⟨u, h2, VR.mono h .nilm u h4⟩, VRr.mono h r b h3⟩
  | .mp x :: r, _, hv => by simp only [VRr] at hv ⊢; obtain ⟨a, b, h1, ⟨u, h2, h4⟩, h3⟩ := hv; exact ⟨a, b, h1, ⟨u, h2, VR.mono h (.mp x) u h4⟩, VRr.mono h r b h3⟩
  | .nili :: r, _, hv => by simp only [VRr] at hv ⊢; obtain ⟨a, b, h1, ⟨u, h2, h4⟩, h3⟩ := hv; exact ⟨a, b, h1, ⟨u, h2, VR.mono h .nili u h4⟩, VRr.mono h r b h3⟩
  | .ifc x y :: r, _, hv => by simp only [VRr] at hv ⊢; obtain ⟨a, b, h1, ⟨u, h2, h4⟩, h3⟩ := hv; exact ⟨a, b, h1, ⟨u, h2, VR.mono h (.ifc x y) u h4⟩, VRr.mono h r b h3⟩
end

/-- the cells of a list of rows -/
def flat (l : List AV) : List AV := l.flatMap AV.cells

theorem VRl.append {κ : Kn} : ∀ {l m : List AV} {vs : List Value}, VRl κ (l ++ m) vs ↔ ∃ a b, vs = a ++ b ∧ VRl κ l a ∧ VRl κ m b
  | [], m, vs => by
    simp only [List.nil_append, VRl]
    exact ⟨fun h => ⟨[], vs, rfl, rfl, h⟩, fun ⟨a, b, h1, h2, h3⟩ => by subst h2; simpa [h1] using h3⟩
  | x :: l, m, vs => by
    simp only [List.cons_append, VRl, VRl.append (l := l)]
    constructor
    · rintro ⟨u, us, rfl, h1, a, b, rfl, h2, h3⟩
      exact ⟨u :: a, b, rfl, ⟨u, a, rfl, h1, h2⟩, h3⟩
    · rintro ⟨a, b, rfl, ⟨u, us, rfl, h1, h2⟩, h3⟩
      exact ⟨u, us ++ b, rfl, h1, us, b, rfl, h2, h3⟩

theorem VRl.length {κ : Kn} : ∀ {l : List AV} {vs : List Value}, VRl κ l vs → l.length = vs.length
  | [], _, h => by simp only [VRl] at h; simp [h]
  | _ :: l, _, h => by
    simp only [VRl] at h
    obtain ⟨u, us, rfl, _, h⟩ := h
    simp [VRl.length h]

theorem VRr_iff {κ : Kn} : ∀ (l : List AV) (vs : List Value), VRr κ l vs ↔ VRl κ (flat l) vs
  | [], vs => by simp [VRr, VRl, flat]
  | x :: r, vs => by
    have hf : flat (x :: r) = x.cells ++ flat r := by simp [flat]
    rw [hf, VRl.append]
    unfold VRr
    constructor
    · rintro ⟨a, b, h1, h2, h3⟩
      refine ⟨a, b, h1, ?_, (VRr_iff r b).1 h3⟩
      cases x <;> simp only [AV.cells, VRl] at h2 ⊢ <;> first | exact h2 | (obtain ⟨u, rfl, h⟩ := h2; exact ⟨u, [], rfl, h, rfl⟩)
    · rintro ⟨a, b, h1, h2, h3⟩
      refine ⟨a, b, h1, ?_, (VRr_iff r b).2 h3⟩
      cases x <;> simp only [AV.cells, VRl] at h2 ⊢ <;> first | exact h2 | (obtain ⟨u, us, rfl, h, rfl⟩ := h2; exact ⟨u, rfl, h⟩)

/-- n elements from an address on, in constant memory -/
def SlA (κ : Kn) (l : List AV) (a : Addr) (n c : Nat) : Prop :=
  l.length = n ∧ n ≤ c ∧ (0 < n → a.spot = none) ∧ ∃ sz, ∃ vs : List Value, (∀ x ∈ l, x.cells.length = sz) ∧ Held κ a vs ∧ Ones vs ∧ VRl κ (flat l) vs

theorem VR_sl {κ : Kn} {l : List AV} {v : Value} : VR κ (.sl l) v ↔ ∃ a n c, v = .slice (some a) n c ∧ SlA κ l a n c := by
  simp only [VR, VRr_iff, SlA]
  constructor
  · rintro ⟨a, n, c, sz, vs, h1, h2, h3, h4, h5, h6, h7, h8⟩; exact ⟨a, n, c, h1, h2, h3, h4, sz, vs, h5, h6, h7, h8⟩
  · rintro ⟨a, n, c, h1, h2, h3, h4, sz, vs, h5, h6, h7, h8⟩; exact ⟨a, n, c, sz, vs, h1, h2, h3, h4, h5, h6, h7, h8⟩

theorem SlA.mono {κ κ' : Kn} (h : LE κ κ') {l : List AV} {a : Addr} {n c : Nat} (k : SlA κ l a n c) : SlA κ' l a n c := by
  obtain ⟨h1, h2, h3, sz, vs, h4, h5, h6, h7⟩ := k
  exact ⟨h1, h2, h3, sz, vs, h4, h5.mono h, h6, VRl.mono h _ _ h7⟩

/-- a slot and what stands in the temporary or the cell -/
def SR (κ : Kn) : Slot → Value → Prop
  | .und, _ => True
  | .no, v => v = undef
  | .val a, v => VR κ a v
  | .own k e l, v => (∃ a n c, v = .slice (some a) n c ∧ SlA κ l a n c) ∧ ∃ L u, κ.tok k = some (L, e, u) ∧ l.length ≤ L ∧ (l.length = L → v = u)
  | .full l, v => ∃ a n, v = .slice (some a) n n ∧ SlA κ l a n n

theorem SR.mono {κ κ' : Kn} (h : LE κ κ') : ∀ {s : Slot} {v : Value}, SR κ s v → SR κ' s v
  | .und, _, _ => trivial
  | .no, _, k => k
  | .val a, v, k => VR.mono h a v k
  | .own k e l, v, hv => by
    obtain ⟨⟨a, n, c, h1, h2⟩, L, u, h3, h4, h5⟩ := hv
    obtain ⟨L', u', k1, k2, k3⟩ := h.tok _ _ _ _ h3
    refine ⟨⟨a, n, c, h1, h2.mono h⟩, L', u', k1, by omega, fun e => ?_⟩
    rw [k3 (by omega)]
    exact h5 (by omega)
  | .full _, _, k => by
    obtain ⟨a, n, h1, h2⟩ := k
    exact ⟨a, n, h1, h2.mono h⟩

/-- what a slot gives as a value -/
theorem SR.av {κ : Kn} {s : Slot} {v : Value} {a : AV} (h : SR κ s v) (ha : s.av = some a) : VR κ a v := by
  cases s with
  | und => simp [Slot.av] at ha
  | no => simp [Slot.av] at ha
  | val x => simp [Slot.av] at ha; subst ha; exact h
  | own k e l =>
    simp [Slot.av] at ha; subst ha
    exact VR_sl.2 h.1
  | full l =>
    simp [Slot.av] at ha; subst ha
    obtain ⟨b, n, h1, h2⟩ := h
    exact VR_sl.2 ⟨b, n, n, h1, h2⟩

def SRs (κ : Kn) : List Slot → List Value → Prop
  | [], vs => vs = []
  | s :: r, vs => ∃ u us, vs = u :: us ∧ SR κ s u ∧ SRs κ r us

theorem SRs.mono {κ κ' : Kn} (h : LE κ κ') : ∀ {l : List Slot} {vs : List Value}, SRs κ l vs → SRs κ' l vs
  | [], _, k => k
  | _ :: _, _, ⟨u, us, h1, h2, h3⟩ => ⟨u, us, h1, h2.mono h, SRs.mono h h3⟩

theorem SRs.length {κ : Kn} : ∀ {l : List Slot} {vs : List Value}, SRs κ l vs → l.length = vs.length
  | [], _, h => by simp only [SRs] at h; simp [h]
  | _ :: _, _, ⟨u, us, h1, _, h3⟩ => by subst h1; simp [SRs.length h3]

end Go.Am
