/- A part of the proof: PTy3, PTy4, PSch2, SSch5, PSch3, SSch6. -/
import Derived.Test.YtobelgghegmhhaaGreatDoorM12
set_option linter.unusedVariables false
set_option linter.unusedSimpArgs false
namespace Go.Am
open Go
mutual
theorem QeM : ∀ t : Ty, ownTy (ownTy t) = ownTy t
 | .mk k n s l b => by simp only [ownTy, QcY l]
theorem QcY : ∀ l : List Ty, ownTys (ownTys l) = ownTys l
 | [] => rfl
 | t :: l => by simp only [ownTys, QeM t, QcY l]
end
section
variable {σ : Type} (to : Int → σ → Ty × σ)
mutual
theorem Qgb : ∀ (t : Ty) (st : σ), chTy to (ownTy t) st = chTy to t st
 | .mk k n s l b, st => by simp only [ownTy, chTy, Qeu l st]
theorem Qeu : ∀ (l : List Ty) (st : σ), chTys to (ownTys l) st = chTys to l st
 | [], _ => rfl
 | t :: l, st => by simp only [ownTys, chTys, Qgb t st, Qeu l]
end
mutual
theorem QgI (h : ∀ n st, ownTy (to n st).1 = (to n st).1) : ∀ (t : Ty) (st : σ), ownTy (chTy to t st).1 = (chTy to t st).1
 | .mk k n s l b, st => by
   simp only [chTy]
   cases decide (k = 1) with
   | true => exact h n st
   | false => simp only [cond_false, ownTy, QeN h l st]
theorem QeN (h : ∀ n st, ownTy (to n st).1 = (to n st).1) : ∀ (l : List Ty) (st : σ), ownTys (chTys to l st).1 = (chTys to l st).1
 | [], _ => rfl
 | t :: l, st => by simp only [chTys, ownTys, QgI h t st, QeN h l]
end
mutual
theorem Qjd (h : ∀ n st, 0 ≤ n → (to n st).1 = tvar n) : ∀ (t : Ty) (st : σ), allTy goodB t = true → eqTy (chTy to t st).1 t = true
 | .mk k n s l b, st, g => by
   simp only [allTy, Bool.and_eq_true] at g
   simp only [chTy]
   by_cases hk : k = 1
   ·obtain ⟨h0, rfl, rfl⟩ := Q00 g.1 hk
    rw [decide_eq_true hk]; simp only [cond_true, h n st h0, tvar, eqTy, eqTys]
    rw [decide_eq_true hk.symm]; simp
   ·rw [decide_eq_false hk]; simp only [cond_false, eqTy, Qcf h l st g.2, decide_true, Bool.and_self]
theorem Qcf (h : ∀ n st, 0 ≤ n → (to n st).1 = tvar n) : ∀ (l : List Ty) (st : σ), allTys goodB l = true → eqTys (chTys to l st).1 l = true
 | [], _, _ => by simp only [chTys, eqTys]
 | t :: l, st, g => by
   simp only [allTys, Bool.and_eq_true] at g
   simp only [chTys, eqTys, Qjd h t st g.1, Qcf h l _ g.2, Bool.and_self]
end
end
theorem Qh3 (l : List Ty) (n : Int) (u : Unit) : ownTy (toPut l n u).1 = (toPut l n u).1 := by
 simp only [toPut]
 split
 ·exact QeM _
 ·simp only [tvar, ownTy, ownTys]
mutual
def VarsLt (b : Int) : Ty → Prop
 | .mk k n _ l _ => (k = 1 → n < b) ∧ (k ≠ 1 → VarsLts b l)
def VarsLts (b : Int) : List Ty → Prop
 | [] => True
 | t :: l => VarsLt b t ∧ VarsLts b l
end
mutual
theorem Qhe (b : Int) : ∀ (t : Ty) (old fin : List Int), Ext (chTy toCanon t old).2 fin → (∀ n ∈ fin, n < b) → VarsLt b t
 | .mk k n s l _, old, fin, h, hf => by
   simp only [chTy] at h
   simp only [VarsLt]
   by_cases hk : k = 1
   ·rw [decide_eq_true hk] at h; simp only [cond_true] at h
    obtain ⟨-, j, hj⟩ := toCanon_ty h
    have := (Z9 hj).2.2
    exact ⟨fun _ => hf n (List.mem_of_getElem? this), fun h => absurd hk h⟩
   ·rw [decide_eq_false hk] at h; simp only [cond_false] at h
    exact ⟨fun h => absurd h hk, fun _ => Q9v b l old fin h hf⟩
theorem Q9v (b : Int) : ∀ (l : List Ty) (old fin : List Int), Ext (chTys toCanon l old).2 fin → (∀ n ∈ fin, n < b) → VarsLts b l
 | [], _, _, _, _ => trivial
 | t :: l, old, fin, h, hf => by
   simp only [chTys] at h
   exact ⟨Qhe b t old fin ((Q0l l _).trans h) hf, Q9v b l _ fin h hf⟩
end
mutual
theorem Qjt (l k : List Ty) : ∀ (t : Ty), allTy goodB t = true → VarsLt l.length t → putTy (putTy t l) k = putTy t (l.map fun u => putTy u k)
 | .mk kd n s a b, h, hv => by
   simp only [allTy, Bool.and_eq_true] at h
   simp only [VarsLt] at hv
   by_cases hk : kd = 1
   ·obtain ⟨h0, -, -⟩ := Q00 h.1 hk
    have hn := hv.1 hk
    obtain ⟨m, rfl⟩ := Int.eq_ofNat_of_zero_le h0
    have hm : m < l.length := by omega
    have e1 : putTy (.mk kd (m : Int) s a b) l = ownTy l[m] := by
     simp only [putTy, chTy]; rw [decide_eq_true hk]; simp only [cond_true, toPut]
     rw [if_pos ⟨h0, hn⟩]; simp [hm]
    have e2 : putTy (.mk kd (m : Int) s a b) (l.map fun u => putTy u k) = ownTy (putTy l[m] k) := by
     simp only [putTy, chTy]; rw [decide_eq_true hk]; simp only [cond_true, toPut]
     rw [if_pos ⟨h0, by simpa using hn⟩]; simp [hm]
    rw [e1, e2]
    show (chTy (toPut k) (ownTy l[m]) ()).1 = ownTy (chTy (toPut k) l[m] ()).1
    rw [Qgb, QgI (toPut k) (Qh3 k)]
   ·have ih := Qd6 l k a h.2 (hv.2 hk)
    simp only [putTy, chTy]
    rw [decide_eq_false hk]; simp only [cond_false, chTy]
    rw [decide_eq_false hk]; simp only [cond_false]
    rw [ih]; rfl
theorem Qd6 (l k : List Ty) : ∀ (a : List Ty), allTys goodB a = true → VarsLts l.length a → (chTys (toPut k) (chTys (toPut l) a ()).1 ()).1 = (chTys (toPut (l.map fun u => putTy u k)) a ()).1
 | [], _, _ => rfl
 | t :: a, h, hv => by
   simp only [allTys, Bool.and_eq_true] at h
   simp only [VarsLts] at hv
   have h1 := Qjt l k t h.1 hv.1
   have h2 := Qd6 l k a h.2 hv.2
   show putTy (putTy t l) k :: _ = putTy t (l.map fun u => putTy u k) :: _
   rw [h1]
   exact congrArg _ h2
end
end Go.Am
namespace Go.Am
open Go
def rangeI (m : Nat) : List Int := (List.range m).map fun i : Nat => (i : Int)
theorem Q7H (m : Nat) : rangeI (m + 1) = rangeI m ++ [(m : Int)] := by simp [rangeI, List.range_succ]
theorem Q92 (m : Nat) : (rangeI m).length = m := by simp [rangeI]
theorem Q1x {n : Int} : ∀ {l : List Int} {i : Nat}, n ∉ l → placeI n l i = none
 | [], _, _ => rfl
 | m :: l, i, h => by
   simp only [placeI]
   rw [if_neg (fun e => h (by simp [e]))]
   exact Q1x fun hm => h (List.mem_cons_of_mem _ hm)
theorem Q6w : ∀ (m i : Nat), i < m → placeI (i : Int) (rangeI m) 0 = some i
 | 0, _, h => by omega
 | m + 1, i, h => by
   rw [Q7H]
   by_cases hi : i < m
   ·exact Q3v (Q6w m i hi)
   ·obtain rfl : i = m := by omega
    rw [toCanon_ty.placeI_app', Q1x (by simp [rangeI]; omega)]
    simp [Q92]
theorem QbG (n : Int) (x : List Int) : ∃ p : Nat, (toCanon n x).1 = tvar p ∧ toCanon (p : Int) (rangeI x.length) = ((toCanon n x).1, rangeI (toCanon n x).2.length) := by
 cases h : placeI n x 0 with
 | some i =>
   have hi := (Z9 h).2.1
   have e : toCanon n x = (tvar (i : Int), x) := by simp only [toCanon, h]
   refine ⟨i, by rw [e], ?_⟩
   rw [e]
   simp only [toCanon, Q6w x.length i (by omega)]
 | none =>
   have e : toCanon n x = (tvar (x.length : Int), x ++ [n]) := by simp only [toCanon, h]
   refine ⟨x.length, by rw [e], ?_⟩
   rw [e]
   simp only [toCanon, List.length_append, List.length_singleton]
   rw [Q1x (by simp [rangeI]; omega)]
   simp only [Q92, Q7H]
mutual
theorem Qhx : ∀ (t : Ty) (x : List Int), chTy toCanon (chTy toCanon t x).1 (rangeI x.length) = ((chTy toCanon t x).1, rangeI (chTy toCanon t x).2.length)
 | .mk k n s l b, x => by
   simp only [chTy]
   cases hk : decide (k = 1) with
   | true =>
     simp only [cond_true]
     obtain ⟨p, e1, e2⟩ := QbG n x
     rw [e1] at e2 ⊢
     have : chTy toCanon (tvar p) (rangeI x.length) = toCanon p (rangeI x.length) := by simp only [tvar, chTy, decide_true, cond_true]
     rw [this, e2]
   | false =>
     simp only [cond_false, chTy, hk, Qap l x]
theorem Qap : ∀ (l : List Ty) (x : List Int), chTys toCanon (chTys toCanon l x).1 (rangeI x.length) = ((chTys toCanon l x).1, rangeI (chTys toCanon l x).2.length)
 | [], x => by simp only [chTys]
 | t :: l, x => by
   simp only [chTys]
   rw [Qhx t x]
   simp only []
   rw [Qap l (chTy toCanon t x).2]
end
mutual
theorem Qjc : ∀ (t : Ty) (x fin : List Int), Ext (chTy toCanon t x).2 fin → allTy goodB t = true → eqTy (putTy (chTy toCanon t x).1 (fin.map tvar)) t = true
 | .mk k n s l b, x, fin, h, g => by
   simp only [allTy, Bool.and_eq_true] at g
   simp only [chTy] at h ⊢
   by_cases hk : k = 1
   ·obtain ⟨h0, rfl, rfl⟩ := Q00 g.1 hk
    rw [decide_eq_true hk] at h ⊢
    simp only [cond_true] at h ⊢
    obtain ⟨e1, j, hj⟩ := toCanon_ty h
    have hpl := Z9 hj
    have ep : placeR n fin = (j : Int) := by unfold placeR; rw [hj]
    rw [e1, ep]
    have : putTy (tvar (j : Int)) (fin.map tvar) = tvar n := by
     simp only [putTy, tvar, chTy, decide_true, cond_true, toPut]
     have hjl : j < fin.length := by omega
     rw [if_pos ⟨by omega, by simp; omega⟩, List.getD_eq_getElem?_getD]
     have := hpl.2.2
     simp only [Nat.sub_zero] at this
     simp [this, ownTy, ownTys, tvar]
    rw [this]
    simp [tvar, eqTy, eqTys, hk]
   ·rw [decide_eq_false hk] at h ⊢
    simp only [cond_false] at h ⊢
    have ih := Qce l x fin h g.2
    simp only [putTy, chTy]
    rw [decide_eq_false hk]
    simp only [cond_false, eqTy, ih, decide_true, Bool.and_self]
theorem Qce : ∀ (l : List Ty) (x fin : List Int), Ext (chTys toCanon l x).2 fin → allTys goodB l = true → eqTys (chTys (toPut (fin.map tvar)) (chTys toCanon l x).1 ()).1 l = true
 | [], _, _, _, _ => by simp only [chTys, eqTys]
 | t :: l, x, fin, h, g => by
   simp only [allTys, Bool.and_eq_true] at g
   simp only [chTys] at h ⊢
   have h1 := Qjc t x fin ((Q0l l _).trans h) g.1
   have h2 := Qce l _ fin h g.2
   simp only [putTy] at h1
   simp only [eqTys, h1, h2, Bool.and_self]
end
def headA (s t : Ty) : Bool := decide (s.kind = t.kind) && decide (s.name = t.name) && decide (s.args.length = t.args.length) && (decide (s.kind = 1) || decide (s.n = t.n))
def innerA (s t : Ty) : List Ty → List Ty → Bool
 | a :: A, b :: B => !(decide (a.kind = 1) && !(decide (a.n = s.n) == decide (b.n = t.n))) && innerA s t A B
 | _, _ => true
def alikeL : List Ty → List Ty → List Ty → List Ty → Bool
 | pa, pb, s :: X, t :: Y => headA s t && (bif decide (s.kind = 1) then innerA s t pa pb else true) && alikeL (pa ++ [s]) (pb ++ [t]) X Y
 | _, _, _, _ => true
theorem Q8O (s t : Ty) : ∀ (A B : List Ty), A.length = B.length → (innerA s t A B = true ↔ ∀ (k : Nat) (a b : Ty), A[k]? = some a → B[k]? = some b → a.kind = 1 → (a.n = s.n ↔ b.n = t.n))
 | [], [], _ => by simp [innerA]
 | [], _ :: _, h => by simp at h
 | _ :: _, [], h => by simp at h
 | a :: A, b :: B, h => by
   have ih := Q8O s t A B (by simpa using h)
   simp only [innerA, Bool.and_eq_true, ih]
   constructor
   ·rintro ⟨h1, h2⟩ k a' b' ha hb hk
    cases k with
    | zero =>
      simp only [List.getElem?_cons_zero, Option.some.injEq] at ha hb
      subst ha; subst hb
      rw [decide_eq_true hk] at h1
      simp only [Bool.true_and, Bool.not_not, beq_iff_eq] at h1
      exact decide_eq_decide.1 h1
    | succ k => exact h2 k a' b' (by simpa using ha) (by simpa using hb) hk
   ·intro h1
    refine ⟨?_, fun k a' b' ha hb => h1 (k + 1) a' b' (by simpa using ha) (by simpa using hb)⟩
    by_cases hk : a.kind = 1
    ·have := h1 0 a b rfl rfl hk
     have e : decide (a.n = s.n) = decide (b.n = t.n) := decide_eq_decide.2 this
     rw [decide_eq_true hk, e]; simp
    ·rw [decide_eq_false hk]; simp
structure Met (pa pb : List Ty) (x y : List Int) : Prop where
 len : pa.length = pb.length
 xlen : x.length = y.length
 kind : ∀ (k : Nat) (a b : Ty), pa[k]? = some a → pb[k]? = some b → (a.kind = 1 ↔ b.kind = 1) ∧ (a.kind = 1 → ∃ j, placeI a.n x 0 = some j ∧ placeI b.n y 0 = some j)
 cx : ∀ n j, placeI n x 0 = some j → ∃ (k : Nat) (a : Ty), pa[k]? = some a ∧ a.kind = 1 ∧ a.n = n
 cy : ∀ n j, placeI n y 0 = some j → ∃ (k : Nat) (b : Ty), pb[k]? = some b ∧ b.kind = 1 ∧ b.n = n
def posC (n : Int) (x : List Int) : Nat := match placeI n x 0 with | some i => i | none => x.length
theorem Q2O (n : Int) (x : List Int) : (toCanon n x).1 = tvar (posC n x) := by
 unfold toCanon posC
 cases placeI n x 0 <;> rfl
theorem Q90 {n m : Int} {l : List Int} {j : Nat} (h : placeI n l 0 = some j) (g : placeI m l 0 = some j) : n = m := by
 have h1 := (Z9 h).2.2
 have h2 := (Z9 g).2.2
 rw [h1] at h2
 exact Option.some.inj h2
theorem Met.inner {pa pb : List Ty} {x y : List Int} (M : Met pa pb x y) (s t : Ty) : innerA s t pa pb = true ↔ posC s.n x = posC t.n y := by
 rw [Q8O s t pa pb M.len]
 have other : ∀ {k : Nat} {a : Ty}, pa[k]? = some a → ∃ b, pb[k]? = some b := fun {k a} h => by
  have := (List.getElem?_eq_some_iff.1 h).1
  exact ⟨_, List.getElem?_eq_getElem (by rw [← M.len]; exact this)⟩
 have other' : ∀ {k : Nat} {b : Ty}, pb[k]? = some b → ∃ a, pa[k]? = some a := fun {k b} h => by
  have := (List.getElem?_eq_some_iff.1 h).1
  exact ⟨_, List.getElem?_eq_getElem (by rw [M.len]; exact this)⟩
 have hxl := M.xlen
 unfold posC
 constructor
 ·intro h
  cases hx : placeI s.n x 0 with
  | some i =>
    obtain ⟨k, a, ha, hk, hn⟩ := M.cx _ _ hx
    obtain ⟨b, hb⟩ := other ha
    obtain ⟨j, h1, h2⟩ := (M.kind k a b ha hb).2 hk
    have := (h k a b ha hb hk).1 hn
    rw [hn, hx] at h1
    cases h1
    rw [this] at h2
    rw [h2]
  | none =>
    cases hy : placeI t.n y 0 with
    | none => exact hxl
    | some i =>
      obtain ⟨k, b, hb, hk, hn⟩ := M.cy _ _ hy
      obtain ⟨a, ha⟩ := other' hb
      have hka := (M.kind k a b ha hb).1.2 hk
      obtain ⟨j, h1, h2⟩ := (M.kind k a b ha hb).2 hka
      have := (h k a b ha hb hka).2 hn
      rw [this, hx] at h1
      cases h1
 ·intro h k a b ha hb hk
  obtain ⟨j, h1, h2⟩ := (M.kind k a b ha hb).2 hk
  have hj1 := (Z9 h1).2.1
  have hj2 := (Z9 h2).2.1
  cases hx : placeI s.n x 0 with
  | some i =>
    have hi := (Z9 hx).2.1
    rw [hx] at h
    cases hy : placeI t.n y 0 with
    | none => rw [hy] at h; simp only at h; omega
    | some i' =>
      rw [hy] at h
      simp only at h
      subst h
      constructor
      ·intro e; rw [e, hx] at h1; cases h1; exact Q90 h2 hy
      ·intro e; rw [e, hy] at h2; cases h2; exact Q90 h1 hx
  | none =>
    rw [hx] at h
    cases hy : placeI t.n y 0 with
    | some i' => have := (Z9 hy).2.1; rw [hy] at h; simp only at h; omega
    | none =>
      constructor
      ·intro e; rw [e, hx] at h1; cases h1
      ·intro e; rw [e, hy] at h2; cases h2
theorem Q5k {α : Type} {l : List α} {a b : α} {k : Nat} (h : (l ++ [a])[k]? = some b) : l[k]? = some b ∨ (k = l.length ∧ b = a) := by
 by_cases hk : k < l.length
 ·rw [List.getElem?_append_left hk] at h; exact .inl h
 ·rw [List.getElem?_append_right (by omega)] at h
  have : k - l.length = 0 := by
   cases hq : k - l.length with
   | zero => rfl
   | succ q => rw [hq] at h; simp at h
  rw [this] at h
  simp at h
  exact .inr ⟨by omega, h.symm⟩
theorem Q75 {α : Type} {l : List α} {a b : α} {k : Nat} (h : l[k]? = some b) : (l ++ [a])[k]? = some b := by
 rw [List.getElem?_append_left (List.getElem?_eq_some_iff.1 h).1]; exact h
theorem Met.node {pa pb : List Ty} {x y : List Int} (M : Met pa pb x y) {s t : Ty} (hs : s.kind ≠ 1) (ht : t.kind ≠ 1) : Met (pa ++ [s]) (pb ++ [t]) x y where
 len := by simp [M.len]
 xlen := M.xlen
 kind := fun k a b ha hb => by
  rcases Q5k ha with ha | ⟨hk, rfl⟩ <;> rcases Q5k hb with hb | ⟨hk', rfl⟩
  ·exact M.kind k a b ha hb
  ·have := (List.getElem?_eq_some_iff.1 ha).1; have := M.len; omega
  ·have := (List.getElem?_eq_some_iff.1 hb).1; have := M.len; omega
  ·exact ⟨⟨fun h => absurd h hs, fun h => absurd h ht⟩, fun h => absurd h hs⟩
 cx := fun n j h => by obtain ⟨k, a, h1, h2⟩ := M.cx n j h; exact ⟨k, a, Q75 h1, h2⟩
 cy := fun n j h => by obtain ⟨k, a, h1, h2⟩ := M.cy n j h; exact ⟨k, a, Q75 h1, h2⟩
theorem Q6v (n : Int) (x : List Int) : placeI n (toCanon n x).2 0 = some (posC n x) := by
 unfold toCanon posC
 cases h : placeI n x 0 with
 | some i => exact h
 | none => simp only []; rw [toCanon_ty.placeI_app', h]; simp
theorem Q7E {m : Int} {j : Nat} (n : Int) {x : List Int} (h : placeI m x 0 = some j) : placeI m (toCanon n x).2 0 = some j := by
 obtain ⟨c, hc⟩ := Q7M n x
 rw [hc]; exact Q3v h
theorem Q7D {m n : Int} {j : Nat} {x : List Int} (h : placeI m (toCanon n x).2 0 = some j) : m = n ∨ placeI m x 0 = some j := by
 unfold toCanon at h
 cases hp : placeI n x 0 with
 | some i => rw [hp] at h; exact .inr h
 | none =>
   rw [hp] at h
   simp only at h
   rw [toCanon_ty.placeI_app'] at h
   cases hm : placeI m x 0 with
   | some i => rw [hm] at h; exact .inr h
   | none =>
     rw [hm] at h
     simp only at h
     split at h
     ·rename_i e; exact .inl e
     ·cases h
theorem Q7N (n : Int) (x : List Int) : (toCanon n x).2.length = if posC n x < x.length then x.length else x.length + 1 := by
 unfold toCanon posC
 cases h : placeI n x 0 with
 | some i => have := (Z9 h).2.1; simp only []; rw [if_pos (by omega)]
 | none => simp
theorem Met.var {pa pb : List Ty} {x y : List Int} (M : Met pa pb x y) {s t : Ty} (hs : s.kind = 1) (ht : t.kind = 1) (hp : posC s.n x = posC t.n y) : Met (pa ++ [s]) (pb ++ [t]) (toCanon s.n x).2 (toCanon t.n y).2 where
 len := by simp [M.len]
 xlen := by rw [Q7N, Q7N, hp, M.xlen]
 kind := fun k a b ha hb => by
  rcases Q5k ha with ha | ⟨hk, rfl⟩ <;> rcases Q5k hb with hb | ⟨hk', rfl⟩
  ·obtain ⟨h1, h2⟩ := M.kind k a b ha hb
   exact ⟨h1, fun h => by obtain ⟨j, g1, g2⟩ := h2 h; exact ⟨j, Q7E _ g1, Q7E _ g2⟩⟩
  ·have := (List.getElem?_eq_some_iff.1 ha).1; have := M.len; omega
  ·have := (List.getElem?_eq_some_iff.1 hb).1; have := M.len; omega
  ·exact ⟨⟨fun _ => ht, fun _ => hs⟩, fun _ => ⟨_, Q6v _ _, by rw [hp]; exact Q6v _ _⟩⟩
 cx := fun n j h => by
  rcases Q7D h with rfl | h
  ·exact ⟨pa.length, s, by simp, hs, rfl⟩
  ·obtain ⟨k, a, h1, h2⟩ := M.cx n j h; exact ⟨k, a, Q75 h1, h2⟩
 cy := fun n j h => by
  rcases Q7D h with rfl | h
  ·exact ⟨pb.length, t, by simp, ht, rfl⟩
  ·obtain ⟨k, a, h1, h2⟩ := M.cy n j h; exact ⟨k, a, Q75 h1, h2⟩
theorem Qgf (p q : Nat) : eqTy (tvar (p : Int)) (tvar (q : Int)) = decide (p = q) := by
 simp only [tvar, eqTy, eqTys, decide_true, Bool.true_and, Bool.and_true]
 rw [decide_eq_decide]; omega
mutual
theorem Qf3 : ∀ (t u : Ty) (pa pb : List Ty) (x y : List Int), Met pa pb x y → allTy goodB t = true → allTy goodB u = true →
  (eqTy (chTy toCanon t x).1 (chTy toCanon u y).1 = true → t.size = u.size ∧ Met (pa ++ preTy t) (pb ++ preTy u) (chTy toCanon t x).2 (chTy toCanon u y).2) ∧
  ∀ R S, alikeL pa pb (preTy t ++ R) (preTy u ++ S) = (eqTy (chTy toCanon t x).1 (chTy toCanon u y).1 && alikeL (pa ++ preTy t) (pb ++ preTy u) R S)
 | .mk k n s l b, .mk k' n' s' l' b', pa, pb, x, y, M, g, g' => by
   simp only [allTy, Bool.and_eq_true] at g g'
   have hpre : ∀ R, preTy (.mk k n s l b) ++ R = .mk k n s l b :: (preTys l ++ R) := fun _ => rfl
   have hpre' : ∀ R, preTy (.mk k' n' s' l' b') ++ R = .mk k' n' s' l' b' :: (preTys l' ++ R) := fun _ => rfl
   have hcons : ∀ _ : Unit, pa ++ preTy (.mk k n s l b) = pa ++ [.mk k n s l b] ++ preTys l := fun _ => by simp [preTy]
   have hcons' : ∀ _ : Unit, pb ++ preTy (.mk k' n' s' l' b') = pb ++ [.mk k' n' s' l' b'] ++ preTys l' := fun _ => by simp [preTy]
   have step : ∀ X Y, alikeL pa pb (.mk k n s l b :: X) (.mk k' n' s' l' b' :: Y) = (headA (.mk k n s l b) (.mk k' n' s' l' b') && (bif decide (k = 1) then innerA (.mk k n s l b) (.mk k' n' s' l' b') pa pb else true) && alikeL (pa ++ [.mk k n s l b]) (pb ++ [.mk k' n' s' l' b']) X Y) := fun _ _ => rfl
   have head : headA (.mk k n s l b) (.mk k' n' s' l' b') = (decide (k = k') && decide (s = s') && decide (l.length = l'.length) && (decide (k = 1) || decide (n = n'))) := rfl
   by_cases hk : k = 1
   ·obtain ⟨h0, rfl, rfl⟩ := Q00 g.1 hk
    by_cases hk' : k' = 1
    ·obtain ⟨h0', rfl, rfl⟩ := Q00 g'.1 hk'
     have e1 : chTy toCanon (.mk k n [] [] b) x = toCanon n x := by simp only [chTy]; rw [decide_eq_true hk]; rfl
     have e2 : chTy toCanon (.mk k' n' [] [] b') y = toCanon n' y := by simp only [chTy]; rw [decide_eq_true hk']; rfl
     rw [e1, e2, Q2O, Q2O, Qgf]
     have hin := M.inner (.mk k n [] [] b) (.mk k' n' [] [] b')
     have hin' : innerA (.mk k n [] [] b) (.mk k' n' [] [] b') pa pb = decide (posC n x = posC n' y) := by
      rw [Bool.eq_iff_iff, decide_eq_true_iff]; exact hin
     refine ⟨fun h => ⟨rfl, ?_⟩, fun R S => ?_⟩
     ·simp only [preTy, preTys]
      exact M.var (s := .mk k n [] [] b) (t := .mk k' n' [] [] b') hk hk' (of_decide_eq_true h)
     ·rw [hpre, hpre', step, head, hin', decide_eq_true hk, decide_eq_true (hk.trans hk'.symm)]
      simp only [preTys, List.nil_append, preTy, cond_true, decide_true, Bool.true_and, Bool.true_or]
    ·have e1 : chTy toCanon (.mk k n [] [] b) x = toCanon n x := by simp only [chTy]; rw [decide_eq_true hk]; rfl
     have e2 : (chTy toCanon (.mk k' n' s' l' b') y).1 = .mk k' n' s' (chTys toCanon l' y).1 true := by simp only [chTy]; rw [decide_eq_false hk']; rfl
     have e3 : eqTy (chTy toCanon (.mk k n [] [] b) x).1 (chTy toCanon (.mk k' n' s' l' b') y).1 = false := by
      rw [e1, e2, Q2O]; simp only [tvar, eqTy]; rw [decide_eq_false (fun h => hk' h.symm)]; simp
     rw [e3]
     refine ⟨fun h => (by cases h), fun R S => ?_⟩
     rw [hpre, hpre', step, head, decide_eq_false (fun h => hk' (h.symm.trans hk))]
     simp
   ·by_cases hk' : k' = 1
    ·have e1 : (chTy toCanon (.mk k n s l b) x).1 = .mk k n s (chTys toCanon l x).1 true := by simp only [chTy]; rw [decide_eq_false hk]; rfl
     have e2 : chTy toCanon (.mk k' n' s' l' b') y = toCanon n' y := by simp only [chTy]; rw [decide_eq_true hk']; rfl
     have e3 : eqTy (chTy toCanon (.mk k n s l b) x).1 (chTy toCanon (.mk k' n' s' l' b') y).1 = false := by
      rw [e1, e2, Q2O]; simp only [tvar, eqTy]; rw [decide_eq_false hk]; simp
     rw [e3]
     refine ⟨fun h => (by cases h), fun R S => ?_⟩
     rw [hpre, hpre', step, head, decide_eq_false (fun h => hk (h.trans hk'))]
     simp
    ·have e1 : chTy toCanon (.mk k n s l b) x = (.mk k n s (chTys toCanon l x).1 true, (chTys toCanon l x).2) := by simp only [chTy]; rw [decide_eq_false hk]; rfl
     have e2 : chTy toCanon (.mk k' n' s' l' b') y = (.mk k' n' s' (chTys toCanon l' y).1 true, (chTys toCanon l' y).2) := by simp only [chTy]; rw [decide_eq_false hk']; rfl
     rw [e1, e2]
     simp only [eqTy]
     have M' := M.node (s := .mk k n s l b) (t := .mk k' n' s' l' b') hk hk'
     by_cases hl : l.length = l'.length
     ·obtain ⟨i1, i2⟩ := Q4z l l' _ _ x y M' g.2 g'.2 hl
      refine ⟨fun h => ?_, fun R S => ?_⟩
      ·simp only [Bool.and_eq_true] at h
       obtain ⟨j1, j2⟩ := i1 h.2
       refine ⟨by simp only [Ty.size, j1], ?_⟩
       rw [hcons (), hcons' ()]; exact j2
      ·rw [hpre, hpre', step, head, i2, hcons (), hcons' (), decide_eq_false hk, decide_eq_true hl]
       simp only [cond_false, Bool.and_true, Bool.false_or]
       cases decide (k = k') <;> cases decide (s = s') <;> cases decide (n = n') <;> simp
     ·have e3 : eqTys (chTys toCanon l x).1 (chTys toCanon l' y).1 = false := Q4b _ _ (by rw [Q47, Q47]; exact hl)
      rw [e3, Bool.and_false]
      refine ⟨fun h => (by cases h), fun R S => ?_⟩
      rw [hpre, hpre', step, head, decide_eq_false hl]
      simp
theorem Q4z : ∀ (l m : List Ty) (pa pb : List Ty) (x y : List Int), Met pa pb x y → allTys goodB l = true → allTys goodB m = true → l.length = m.length →
  (eqTys (chTys toCanon l x).1 (chTys toCanon m y).1 = true → Ty.sizes l = Ty.sizes m ∧ Met (pa ++ preTys l) (pb ++ preTys m) (chTys toCanon l x).2 (chTys toCanon m y).2) ∧
  ∀ R S, alikeL pa pb (preTys l ++ R) (preTys m ++ S) = (eqTys (chTys toCanon l x).1 (chTys toCanon m y).1 && alikeL (pa ++ preTys l) (pb ++ preTys m) R S)
 | [], [], pa, pb, x, y, M, _, _, _ => by
   simp only [preTys, chTys, eqTys, List.append_nil, List.nil_append, Bool.true_and]
   exact ⟨fun _ => ⟨trivial, M⟩, fun _ _ => trivial⟩
 | [], _ :: _, _, _, _, _, _, _, _, h => by simp at h
 | _ :: _, [], _, _, _, _, _, _, _, h => by simp at h
 | t :: l, u :: m, pa, pb, x, y, M, g, g', h => by
   simp only [allTys, Bool.and_eq_true] at g g'
   obtain ⟨i1, i2⟩ := Qf3 t u pa pb x y M g.1 g'.1
   simp only [chTys, eqTys, preTys, Ty.sizes]
   refine ⟨fun hh => ?_, fun R S => ?_⟩
   ·simp only [Bool.and_eq_true] at hh
    obtain ⟨j1, j2⟩ := i1 hh.1
    obtain ⟨k1, -⟩ := Q4z l m _ _ _ _ j2 g.2 g'.2 (by simpa using h)
    obtain ⟨q1, q2⟩ := k1 hh.2
    refine ⟨by rw [j1, q1], ?_⟩
    rw [← List.append_assoc, ← List.append_assoc]; exact q2
   ·rw [List.append_assoc, List.append_assoc, i2]
    cases he : eqTy (chTy toCanon t x).1 (chTy toCanon u y).1 with
    | false => simp
    | true =>
      obtain ⟨j1, j2⟩ := i1 he
      obtain ⟨-, k2⟩ := Q4z l m _ _ _ _ j2 g.2 g'.2 (by simpa using h)
      rw [k2, Bool.true_and, Bool.true_and, List.append_assoc, List.append_assoc]
end
theorem Met.nil : Met [] [] [] [] := ⟨rfl, rfl, by simp, by simp [placeI], by simp [placeI]⟩
end Go.Am
namespace Go.Am
open Go
def oldS (v keep : List Int) : List Int := v.filter (fun n => !hasI keep n) ++ v.filter (fun n => hasI keep n)
def ownN (v keep : List Int) : Nat := (v.filter fun n => !hasI keep n).length
def posV (old : List Int) (n : Int) : Int := match placeI n old 0 with | some i => i | none => 0
def numF (old : List Int) (n : Int) : Ty := tvar (posV old n)
def ofP (t : Ty) (keep : List Int) : Int × Ty :=
 bif rightTyB t then ((ownN (canonTy t).2 keep : Nat), rebT (numF (oldS (canonTy t).2 keep)) t) else (0, zeroTy)
mutual
def numT (old : List Int) : Ty → Ty
 | .mk k n s l _ => bif decide (k = 1) && decide (0 ≤ placeR n old) then tvar (placeR n old) else .mk k n s (numTs old l) true
def numTs (old : List Int) : List Ty → List Ty
 | [] => []
 | t :: l => numT old t :: numTs old l
end
theorem Q1Q {k n : Int} {s : Str} {l : List Ty} {b : Bool} (h : goodB (.mk k n s l b) = true) (hk : decide (k = 1) = true) : 0 ≤ n ∧ s = [] ∧ l = [] := Q00 h (of_decide_eq_true hk)
theorem Q1R {p : Int → Bool} {k n : Int} {s : Str} {l : List Ty} {b : Bool} (h : varB p (.mk k n s l b) = true) (hk : decide (k = 1) = true) : p n = true := by
 have h : (!decide (k = 1) || p n) = true := h
 rw [hk] at h
 exact h
mutual
theorem QjG : ∀ (t : Ty) (old fin : List Int), allTy goodB t = true → Ext (chTy toCanon t old).2 fin → allTy (varB fun n => decide (n ∈ fin)) t = true
 | .mk k n s l b, old, fin, hg, h => by
   simp only [allTy, Bool.and_eq_true] at hg
   simp only [chTy] at h
   simp only [allTy, Bool.and_eq_true]
   cases hk : decide (k = 1) with
   | true =>
     obtain ⟨-, rfl, rfl⟩ := Q1Q hg.1 hk
     rw [hk] at h
     obtain ⟨-, j, hj⟩ := toCanon_ty h
     have hm : n ∈ fin := List.mem_of_getElem? (Z9 hj).2.2
     refine ⟨?_, rfl⟩
     unfold varB
     simp only [Ty.n, hm, decide_true, Bool.or_true]
   | false =>
     rw [hk] at h
     refine ⟨?_, Qdy l old fin hg.2 h⟩
     unfold varB
     rw [show (Ty.mk k n s l b).kind = k from rfl, hk]; rfl
theorem Qdy : ∀ (l : List Ty) (old fin : List Int), allTys goodB l = true → Ext (chTys toCanon l old).2 fin → allTys (varB fun n => decide (n ∈ fin)) l = true
 | [], _, _, _, _ => rfl
 | t :: l, old, fin, hg, h => by
   simp only [allTys, Bool.and_eq_true] at hg
   simp only [chTys] at h
   simp only [allTys, Bool.and_eq_true]
   exact ⟨QjG t old fin hg.1 ((Q0l l _).trans h), Qdy l _ fin hg.2 h⟩
end
theorem Q35 {n : Int} : ∀ {l : List Int} {i : Nat}, n ∈ l → ∃ j, placeI n l i = some j
 | m :: l, i, h => by
   by_cases hn : n = m
   ·exact ⟨i, by simp [placeI, hn]⟩
   ·rcases List.mem_cons.1 h with h | h
    ·exact absurd h hn
    ·obtain ⟨j, hj⟩ := Q35 (i := i + 1) h
     exact ⟨j, by simp [placeI, hn, hj]⟩
theorem Qfx {n : Int} {l : List Int} (h : placeI n l 0 = none) : n ∉ l := fun hm => by
 obtain ⟨j, hj⟩ := Q35 (i := 0) hm
 rw [h] at hj; cases hj
theorem QbH (n : Int) {old : List Int} (h : old.Nodup) : (toCanon n old).2.Nodup := by
 rw [Q2N]
 split
 ·rename_i hp
  have := Qfx ((Q5v n old).1 hp)
  rw [List.nodup_append]
  refine ⟨h, by simp, fun a ha b hb => ?_⟩
  simp only [List.mem_singleton] at hb
  subst hb
  rintro rfl
  exact this ha
 ·exact h
mutual
theorem Qcd : ∀ (t : Ty) (old : List Int), old.Nodup → (chTy toCanon t old).2.Nodup
 | .mk k n s l b, old, h => by
   simp only [chTy]
   cases decide (k = 1) with
   | true => exact QbH n h
   | false => exact Qaq l old h
theorem Qaq : ∀ (l : List Ty) (old : List Int), old.Nodup → (chTys toCanon l old).2.Nodup
 | [], old, h => h
 | t :: l, old, h => by simp only [chTys]; exact Qaq l _ (Qcd t old h)
end
theorem QdO (t : Ty) : (canonTy t).2.Nodup := Qcd t [] List.nodup_nil
mutual
theorem Qlx (old : List Int) : ∀ t : Ty, allTy goodB t = true → allTy (varB fun n => decide (n ∈ old)) t = true → numT old t = rebT (numF old) t
 | .mk k n s l b, hg, h => by
   simp only [allTy, Bool.and_eq_true] at hg h
   simp only [numT, rebT]
   cases hk : decide (k = 1) with
   | true =>
     have h1 := of_decide_eq_true (Q1R h.1 hk)
     obtain ⟨j, hj⟩ := Q35 (i := 0) h1
     have : placeR n old = (j : Int) := by unfold placeR; rw [hj]
     rw [this]
     simp only [Bool.true_and, cond_true, numF, posV, hj]
     rw [decide_eq_true (by omega)]; rfl
   | false => simp only [Bool.false_and, cond_false, QeJ old l hg.2 h.2]
theorem QeJ (old : List Int) : ∀ l : List Ty, allTys goodB l = true → allTys (varB fun n => decide (n ∈ old)) l = true → numTs old l = rebTs (numF old) l
 | [], _, _ => rfl
 | t :: l, hg, h => by
   simp only [allTys, Bool.and_eq_true] at hg h
   simp only [numTs, rebTs, Qlx old t hg.1 h.1, QeJ old l hg.2 h.2]
end
mutual
theorem Qah {p q : Ty → Bool} (h : ∀ t, p t = true → q t = true) : ∀ t : Ty, allTy p t = true → allTy q t = true
 | .mk k n s l b, g => by
   simp only [allTy, Bool.and_eq_true] at g ⊢
   exact ⟨h _ g.1, Q8y h l g.2⟩
theorem Q8y {p q : Ty → Bool} (h : ∀ t, p t = true → q t = true) : ∀ l : List Ty, allTys p l = true → allTys q l = true
 | [], _ => rfl
 | t :: l, g => by
   simp only [allTys, Bool.and_eq_true] at g ⊢
   exact ⟨Qah h t g.1, Q8y h l g.2⟩
end
theorem Q1M {t : Ty} (h : rightTyB t = true) : allTy goodB t = true := by
 unfold rightTyB at h
 simp only [Bool.and_eq_true] at h
 exact h.2
theorem QbA {t : Ty} (h : rightTyB t = true) : t.size ≤ 256 := by
 unfold rightTyB at h
 simp only [Bool.and_eq_true, decide_eq_true_eq] at h
 exact h.1
end Go.Am
namespace Go.Proofs.YtobelgghegmhhaaGreatDoor
open Go Go.Am
set_option linter.unusedVariables false
set_option maxRecDepth 4000
theorem Q4O (n : Int) (L : List Int) (x : Slot) (hx : x.list? = some (L.map ekI)) (hl : L.length < 2^40) (s : St) : ∀ (suf pre : List Int) (i : Nat), pre ++ suf = L → i = pre.length →
  ∃ r, QP x (.val (.int .i64 n)) (.val (.int .i64 L.length)) (.val (.int .i64 i)) s = some (.ret (.val (.int .i64 r)), s) ∧ decide (r ≥ 0) = hasI suf n
 | [], pre, i, h, hi => by
   subst hi
   refine ⟨-1, ?_, rfl⟩
   rw [Q0u]; simp only [go_sem, Int.reduceNeg, Qi (by simpa using h)]
 | m :: suf, pre, i, h, hi => by
   subst hi
   obtain ⟨f1, f2, f3⟩ := Qe (f := ekI) (sz := 1) hx h (by omega) rfl (by decide)
   have hh : hasI (m :: suf) n = (decide (m = n) || hasI suf n) := rfl
   simp only [ekI] at f2
   rw [Q0u, hh]
   by_cases hm : n = m
   ·refine ⟨pre.length, by simp only [go_sem, Int.reduceNeg, Nat.reduceAdd, Nat.reduceLeDiff, f1, f2, f3, decide_eq_true hm], ?_⟩
    rw [decide_eq_true hm.symm]; simp
   ·obtain ⟨r, e, hr⟩ := Q4O n L x hx hl s suf (pre ++ [m]) (pre.length + 1) (by simpa using h) (by simp)
    refine ⟨r, by simp only [go_sem, Int.reduceNeg, Nat.reduceAdd, Nat.reduceLeDiff, f1, f2, f3, decide_eq_false hm, e], ?_⟩
    rw [hr, decide_eq_false (fun h => hm h.symm)]; rfl
theorem Q7a (n : Int) (L : List Int) (v : AV) (hv : (Slot.val v).list? = some (L.map ekI)) (hl : L.length < 2^40) (s : St) : cw (.f Zu) [v, .int .i64 n] s = some (.ret (.val (.bool (hasI L n))), s) := by
 obtain ⟨r, e, hr⟩ := Q4O n L (.val v) hv hl s L [] 0 rfl rfl
 have e1 : cw (.f Zb) [v, .int .i64 n] s = some (.ret (.val (.int .i64 r)), s) := by
  rw [Q3W]
  rw [show ((0 : Nat) : Int) = 0 from rfl] at e
  simp only [go_sem, hv, List.length_map, e]
 rw [Q2Y, ← hr]
 simp only [go_sem, e1]
theorem Qel {K V : Type} [DecidableEq K] {ek : K → AV} {ev : V → AV} {g : K → Option V} {es : List (AV × AV × Nat)} {c : Nat} {D : List (K × V × Nat)} (M : MapIs ek ev g es c D) (hk : KeyEnc ek) {kt et : TI} (k : K) (hkt : isKey kt (ek k) = true) {s : St} {loc : Nat} (hl : s.locs[loc]? = some (.map es c)) {x : Slot} {v : V} (hx : x.av = some (ev v)) (hs : (ev v).cells.length = et.size) (hg : g k = none) :
  ∃ es' c' D', updateS kt et s (.val (.mp loc)) (.val (ek k)) x = some (.no, { s with locs := s.locs.set loc (.map es' c') }) ∧ MapIs ek ev (upd g k v) es' c' D' ∧ es'.length = es.length + 1 := by
 rcases M.update hk k v with ⟨j, v0, b, h1, h2, h3, D', h4⟩ | ⟨h1, h2, D', h4⟩
 ·rw [hg] at h2; cases h2
 ·exact ⟨_, _, D', by simp only [updateS, Q16, hx, hkt, hs, and_self, if_true, hl, h1], h4, by simp⟩
structure OfMap (s : St) (M P : Nat) (old : List Int) : Prop where
 ptr : s.locs[P]? = some (.var [.val (.mp M)])
 map : ∃ es c D, s.locs[M]? = some (.map es c) ∧ MapIs ekI ekI (oldV old) es c D ∧ es.length = old.length
theorem OfMap.grew {s s' : St} {M P : Nat} {old : List Int} (h : OfMap s M P old) (g : ∀ (i : Nat) (x : Am.Obj), s.locs[i]? = some x → s'.locs[i]? = some x) : OfMap s' M P old := by
 obtain ⟨h1, es, c, D, h2, h3⟩ := h
 exact ⟨g _ _ h1, es, c, D, g _ _ h2, h3⟩
theorem QgG {old : List Int} {n : Int} (h : placeI n old 0 = none) : oldV (old ++ [n]) = upd (oldV old) n (old.length : Int) := by
 funext m
 unfold oldV upd
 rw [Q5u]
 by_cases hm : m = n
 ·subst hm; simp [h]
 ·simp only [hm, if_false]
  cases placeI m old 0 <;> rfl
theorem QgF {old : List Int} {n : Int} (h : n ∉ old) : oldV old n = none := by
 unfold oldV
 rw [Q1x h]
theorem Q8e (M P : Nat) (old : List Int) (n : Int) (s : St) (h : OfMap s M P old) : cw (.f Q1J) [.int .i64 n, .vp P 0] s = some (.ret (.val (numF old n).enc), s) := by
 obtain ⟨h1, es, c, D, h2, h3, h4⟩ := h
 have hlk : lookupS (C.ti Q1) (C.ti Q1) s (.val (.mp M)) (.val (ekI n)) false = some (.val (ekI (posV old n))) := by
  rw [Q4C h3 keyInt (kt := C.ti Q1) (et := C.ti Q1) n (Q1U Q1l n) h2 (z := .int .i64 0) (Qbh Q8u Qad Q8v) false]
  unfold oldV posV
  cases placeI n old 0 <;> rfl
 have e1 := Q0E (posV old n) s
 rw [Qa3]
 simp only [ekI, Ty.enc, tvar] at hlk e1
 simp only [go_sem, Nat.reduceAdd, Nat.reduceLeDiff, Z3 h1, hlk, e1, numF, tvar, Ty.enc]
def ofNew (keep : List Int) (kept : Bool) (l : List Int) : List Int := l.filter fun n => hasI keep n == kept
theorem Q8Z (keep : List Int) (kept : Bool) (n : Int) (l : List Int) : ofNew keep kept (n :: l) = bif hasI keep n == kept then n :: ofNew keep kept l else ofNew keep kept l := by
 unfold ofNew
 rw [List.filter_cons]
 cases hasI keep n == kept <;> rfl
theorem Q6q {keep : List Int} {kept : Bool} {l : List Int} {n : Int} (h : n ∈ ofNew keep kept l) : n ∈ l ∧ (hasI keep n == kept) = true := List.mem_filter.1 h
theorem Q0d (keep V : List Int) (v : AV) (hv : (Slot.val v).list? = some (keep.map ekI)) (hk : keep.length < 2^40) (x2 x4 : List Slot) (x6 x16 x17 x23 : Slot) (hx : x23.list? = some (V.map ekI)) (hV : V.length < 2^40) (kept : Bool) (k : Nat) (hk2 : k < 2) (M P : Nat) (hMP : M < P) (s0 : St) (hb : s0.locs.length ≤ M) :
  ∀ (suf pre old : List Int) (s : St) (i : Nat), pre ++ suf = V → i = pre.length → OfMap s M P old → Grew s0 s → suf.Nodup → (∀ n ∈ ofNew keep kept suf, n ∉ old) →
  ∃ s', Q0s (.val v) x2 x4 (.val (.vp P 0)) x6 (.val (.bool kept)) x16 x17 (.val (.int .i64 k)) x23 (.val (.int .i64 V.length)) (.val (.int .i64 i)) s =
    Z4 (.val v) x2 x4 (.val (.vp P 0)) (bif kept then x6 else .val (.int .i64 (old ++ ofNew keep kept suf).length)) x16 x17 (.val (.int .i64 ((k + 1 : Nat) : Int))) s' ∧ OfMap s' M P (old ++ ofNew keep kept suf) ∧ Grew s0 s'
 | [], pre, old, s, i, h, hi, hM, g, _, _ => by
   subst hi
   refine ⟨s, ?_, by simpa [ofNew] using hM, g⟩
   obtain ⟨h1, es, c, D, h2, h3, h4⟩ := hM
   have hlen : lenM s (.val (.mp M)) = some (.val (.int .i64 es.length)) := by simp only [lenM, h2]
   have hnx : IntKind.i64.wrap ((k : Int) + 1) = ((k + 1 : Nat) : Int) := by rw [wrap64 (by omega) (by omega)]; rfl
   rw [Q4o]
   cases kept with
   | true => simp only [go_sem, Qi (by simpa using h), hnx]
   | false => simp only [go_sem, Nat.reduceAdd, Nat.reduceLeDiff, Qi (by simpa using h), hnx, Z3 h1, hlen, h4, ofNew, List.filter_nil, List.append_nil]
 | n :: suf, pre, old, s, i, h, hi, hM, g, hn, hd => by
   subst hi
   obtain ⟨f1, f2, f3⟩ := Qe (f := ekI) (sz := 1) hx h (by omega) rfl (by decide)
   simp only [ekI] at f2
   have e1 := Q7a n keep v hv hk s
   rw [List.nodup_cons] at hn
   rw [Q4o]
   cases hc : (hasI keep n == kept) with
   | false =>
     have hN : ofNew keep kept (n :: suf) = ofNew keep kept suf := by rw [Q8Z, hc]; rfl
     rw [hN] at hd ⊢
     obtain ⟨s', e2, h2, h3⟩ := Q0d keep V v hv hk x2 x4 x6 x16 x17 x23 hx hV kept k hk2 M P hMP s0 hb suf (pre ++ [n]) old s (pre.length + 1) (by simpa using h) (by simp) hM g hn.2 hd
     refine ⟨s', ?_, h2, h3⟩
     simp only [go_sem, Nat.reduceAdd, Nat.reduceLeDiff, f1, f2, f3, e1, hc, e2]
   | true =>
     have hN : ofNew keep kept (n :: suf) = n :: ofNew keep kept suf := by rw [Q8Z, hc]; rfl
     rw [hN] at hd ⊢
     have hno : n ∉ old := hd n List.mem_cons_self
     obtain ⟨h1, es, c, D, h2, h3, h4⟩ := hM
     obtain ⟨es', c', D', eu, hM', hl'⟩ := Qel h3 keyInt (kt := C.ti Q1) (et := C.ti Q1) n (Q1U Q1l n) h2 (x := .val (.int .i64 old.length)) (v := (old.length : Int)) rfl (by rw [Q3l]; rfl) (QgF hno)
     have hlen : lenM s (.val (.mp M)) = some (.val (.int .i64 old.length)) := by simp only [lenM, h2, h4]
     have hM2 : OfMap { s with locs := s.locs.set M (.map es' c') } M P (old ++ [n]) := by
      refine ⟨?_, es', c', D', Q4Z h2, by rw [QgG (Q1x hno)]; exact hM', by rw [hl', h4]; simp⟩
      show (s.locs.set M _)[P]? = _
      rw [List.getElem?_set_ne (by omega)]; exact h1
     obtain ⟨s', e2, h5, h6⟩ := Q0d keep V v hv hk x2 x4 x6 x16 x17 x23 hx hV kept k hk2 M P hMP s0 hb suf (pre ++ [n]) (old ++ [n]) { s with locs := s.locs.set M (.map es' c') } (pre.length + 1) (by simpa using h) (by simp) hM2 (Q6k g hb _) hn.2 (fun m hm => by
      have h7 := hd m (List.mem_cons_of_mem _ hm)
      rw [List.mem_append, List.mem_singleton]
      rintro (h8 | rfl)
      ·exact h7 h8
      ·exact hn.1 (Q6q hm).1)
     rw [List.append_assoc] at e2 h5
     refine ⟨s', ?_, h5, h6⟩
     simp only [ekI] at eu
     simp only [go_sem, Nat.reduceAdd, Nat.reduceLeDiff, f1, f2, f3, e1, hc, Z3 h1, hlen, eu, e2]
theorem Qi4 (V keep : List Int) : oldS V keep = ofNew keep false V ++ ofNew keep true V := by
 unfold oldS ofNew
 congr 1
 all_goals exact List.filter_congr fun n _ => by cases hasI keep n <;> rfl
theorem Qi7 (V keep : List Int) : ownN V keep = (ofNew keep false V).length := by
 unfold ownN ofNew
 refine congrArg List.length ?_
 exact List.filter_congr fun n _ => by cases hasI keep n <;> rfl
theorem Qa4 (t : Ty) (keep : List Int) (v : AV) (hv : (Slot.val v).list? = some (keep.map ekI)) (hk : keep.length < 2^40) (s : St) (h : t.size < 2^28) (hn : NamesTy t) :
  Ret (cw (.f Q1v) [t.enc, v] s) s (.agg (.int .i64 (ofP t keep).1 :: (ofP t keep).2.cells)) := by
 obtain ⟨s1, e1, g1⟩ := Q38 t s (by omega) hn
 have c := Ty.cells_eq t
 rw [Qdd]
 unfold ofP
 cases hr : rightTyB t with
 | false =>
   rw [hr] at e1
   simp only [go_sem, Nat.reduceAdd, Nat.reduceLeDiff, c, Ty.enc] at e1 ⊢
   simp only [go_sem, e1]
   exact ⟨s1, rfl, g1⟩
 | true =>
   rw [hr] at e1
   let s2 : St := (s1.addLoc (.map [] 0)).addLoc (.var [.val (.mp s1.locs.length)])
   have hM0 : OfMap s2 s1.locs.length (s1.locs.length + 1) [] := ⟨by simp [s2, St.addLoc], [], 0, [], by simp [s2, St.addLoc], .nil, rfl⟩
   have g2 : Grew s1 s2 := ((Grew.refl s1).addLoc _).addLoc _
   have hV := QdO t
   have hVl : (canonTy t).2.length < 2^40 := by
    have := Q7n t []
    simp only [List.length_nil] at this
    show (chTy toCanon t []).2.length < _
    omega
   have i0 : ixS 1 (.full [.bool false, .bool true]) (.val (.int .i64 0)) = some (.val (.cp [.bool false])) := rfl
   have i1 : ixS 1 (.full [.bool false, .bool true]) (.val (.int .i64 1)) = some (.val (.cp [.bool true])) := rfl
   obtain ⟨s3, e3, g3⟩ := Q6V t s2 h
   obtain ⟨s4, e4, h4, g4⟩ := Q0d keep (canonTy t).2 v hv hk (t.cells.map .val) ((C.ti Q8).zero.map .val) (.val (.int .i64 0)) (.full [.bool false, .bool true]) (.val (.int .i64 2)) (.val (encS true ((canonTy t).2.map ekI))) (Qb _ _) hVl false 0 (by decide) s1.locs.length (s1.locs.length + 1) (by omega) s1 (Nat.le_refl _) (canonTy t).2 [] [] s3 0 rfl rfl (hM0.grew fun i x => g3.loc) (g2.trans g3) hV (by simp)
   obtain ⟨s5, e5, g5⟩ := Q6V t s4 h
   obtain ⟨s6, e6, h6, g6⟩ := Q0d keep (canonTy t).2 v hv hk (t.cells.map .val) ((C.ti Q8).zero.map .val) (.val (.int .i64 ([] ++ ofNew keep false (canonTy t).2).length)) (.full [.bool false, .bool true]) (.val (.int .i64 2)) (.val (encS true ((canonTy t).2.map ekI))) (Qb _ _) hVl true 1 (by decide) s1.locs.length (s1.locs.length + 1) (by omega) s1 (Nat.le_refl _) (canonTy t).2 [] ([] ++ ofNew keep false (canonTy t).2) s5 0 rfl rfl (h4.grew fun i x => g5.loc) (g4.trans g5) hV (fun n hn hm => by
    have h1 := (Q6q hn).2
    have h2 := (Q6q (by simpa using hm)).2
    cases hh : hasI keep n <;> rw [hh] at h1 h2 <;> simp at h1 h2)
   rw [List.nil_append, ← Qi4] at h6
   obtain ⟨s7, e7, g7⟩ := Q2s (numF (oldS (canonTy t).2 keep)) (fun _ => true) Q1J [.vp (s1.locs.length + 1) 0] (by kernel_rfl) (fun s => OfMap s s1.locs.length (s1.locs.length + 1) (oldS (canonTy t).2 keep)) (fun s s' hq g => hq.grew g)
    (fun n s hq _ => ⟨s, Q8e _ _ _ n s hq, .refl s⟩) t (Z6 t h) (Qah (p := goodB) (fun u _ => by unfold varB; simp) t (Q1M hr)) s6 h6
   have cr := Ty.cells_eq (rebT (numF (oldS (canonTy t).2 keep)) t)
   have L0 : Z4 (.val v) (t.cells.map .val) ((C.ti Q8).zero.map .val) (.val (.vp (s1.locs.length + 1) 0)) (.val (.int .i64 0)) (.full [.bool false, .bool true]) (.val (.int .i64 2)) (.val (.int .i64 0)) s2 = some (.ret (.val (.agg (.int .i64 (ownN (canonTy t).2 keep : Nat) :: (rebT (numF (oldS (canonTy t).2 keep)) t).cells))), s7) := by
    rw [show ((0 : Nat) : Int) = 0 from rfl, show ((0 + 1 : Nat) : Int) = 1 from rfl] at e4
    rw [show ((0 : Nat) : Int) = 0 from rfl, show ((1 : Nat) : Int) = 1 from rfl, show ((1 + 1 : Nat) : Int) = 2 from rfl] at e6
    have t1 : Z4 (.val v) (t.cells.map .val) ((C.ti Q8).zero.map .val) (.val (.vp (s1.locs.length + 1) 0)) (.val (.int .i64 ([] ++ ofNew keep false (canonTy t).2).length)) (.full [.bool false, .bool true]) (.val (.int .i64 2)) (.val (.int .i64 2)) s6 = some (.ret (.val (.agg (.int .i64 (ownN (canonTy t).2 keep : Nat) :: (rebT (numF (oldS (canonTy t).2 keep)) t).cells))), s7) := by
     rw [Q2n, Qi7]
     simp only [Ty.enc, c, cr] at e7 ⊢
     simp only [go_sem, Int.reduceLT, Nat.reduceAdd, Nat.reduceLeDiff, e7, List.nil_append]
    have t2 : Z4 (.val v) (t.cells.map .val) ((C.ti Q8).zero.map .val) (.val (.vp (s1.locs.length + 1) 0)) (.val (.int .i64 ([] ++ ofNew keep false (canonTy t).2).length)) (.full [.bool false, .bool true]) (.val (.int .i64 2)) (.val (.int .i64 1)) s4 = some (.ret (.val (.agg (.int .i64 (ownN (canonTy t).2 keep : Nat) :: (rebT (numF (oldS (canonTy t).2 keep)) t).cells))), s7) := by
     rw [← t1, Q2n]
     simp only [cond_true] at e6
     rw [← e6]
     simp only [Ty.enc, c] at e5 ⊢
     simp only [go_sem, Int.reduceLT, Nat.reduceAdd, Nat.reduceLeDiff, i1, e5, Qb, List.length_map]
    rw [← t2, Q2n]
    simp only [cond_false] at e4
    rw [← e4]
    simp only [Ty.enc, c] at e3 ⊢
    simp only [go_sem, Int.reduceLT, Nat.reduceAdd, Nat.reduceLeDiff, i0, e3, Qb, List.length_map]
   simp only [go_sem, Nat.reduceAdd, Nat.reduceLeDiff, c, Ty.enc] at e1 L0 ⊢
   simp only [go_sem, e1]
   refine ⟨s7, ?_, ((g1.trans g6)).trans g7⟩
   exact L0
end Go.Proofs.YtobelgghegmhhaaGreatDoor
namespace Go.Am
open Go
mutual
theorem Qlp : ∀ t u : Ty, eqTy t u = true ↔ ownTy t = ownTy u
 | .mk k n s l b, .mk k' n' s' l' b' => by
   have := Qew l l'
   simp only [eqTy, ownTy, Bool.and_eq_true, decide_eq_true_eq, Ty.mk.injEq, this, and_true]
   constructor
   ·rintro ⟨⟨⟨h1, h2⟩, h3⟩, h4⟩; exact ⟨h1, h2, h3, h4⟩
   ·rintro ⟨h1, h2, h3, h4⟩; exact ⟨⟨⟨h1, h2⟩, h3⟩, h4⟩
theorem Qew : ∀ l m : List Ty, eqTys l m = true ↔ ownTys l = ownTys m
 | [], [] => by simp [eqTys, ownTys]
 | [], _ :: _ => by simp [eqTys, ownTys]
 | _ :: _, [] => by simp [eqTys, ownTys]
 | t :: l, u :: m => by simp only [eqTys, ownTys, Bool.and_eq_true, Qlp t u, Qew l m, List.cons.injEq]
end
mutual
theorem Qjv (f : Int → Ty) : ∀ t : Ty, rebT f (ownTy t) = rebT f t
 | .mk k n s l b => by simp only [ownTy, rebT, Qd8 f l]
theorem Qd8 (f : Int → Ty) : ∀ l : List Ty, rebTs f (ownTys l) = rebTs f l
 | [] => rfl
 | t :: l => by simp only [ownTys, rebTs, Qjv f t, Qd8 f l]
end
mutual
theorem Qjw (f g : Int → Ty) : ∀ t : Ty, rebT f (rebT g t) = rebT (fun n => rebT f (g n)) t
 | .mk k n s l b => by
   simp only [rebT]
   cases hk : decide (k = 1) with
   | true => rfl
   | false => simp only [cond_false, rebT, hk, QaS f g l]
theorem QaS (f g : Int → Ty) : ∀ l : List Ty, rebTs f (rebTs g l) = rebTs (fun n => rebT f (g n)) l
 | [] => rfl
 | t :: l => by simp only [rebTs, Qjw f g t, QaS f g l]
end
theorem Q6A (f : Int → Ty) : ∀ l : List Ty, rebTs f l = l.map (rebT f)
 | [] => rfl
 | t :: l => by simp only [rebTs, List.map_cons, Q6A f l]
mutual
theorem QgM {f g : Int → Ty} {p : Int → Bool} (h : ∀ n, p n = true → f n = g n) : ∀ t : Ty, allTy (varB p) t = true → rebT f t = rebT g t
 | .mk k n s l b, hp => by
   simp only [allTy, Bool.and_eq_true] at hp
   simp only [rebT]
   cases hk : decide (k = 1) with
   | true => exact h n (Q1R hp.1 hk)
   | false => simp only [cond_false, Q94 h l hp.2]
theorem Q94 {f g : Int → Ty} {p : Int → Bool} (h : ∀ n, p n = true → f n = g n) : ∀ l : List Ty, allTys (varB p) l = true → rebTs f l = rebTs g l
 | [], _ => rfl
 | t :: l, hp => by
   simp only [allTys, Bool.and_eq_true] at hp
   simp only [rebTs, QgM h t hp.1, Q94 h l hp.2]
end
mutual
theorem Qic {f : Int → Ty} (h : ∀ n, 0 ≤ n → f n = tvar n) : ∀ t : Ty, allTy goodB t = true → ownTy (rebT f t) = ownTy t
 | .mk k n s l b, hg => by
   simp only [allTy, Bool.and_eq_true] at hg
   simp only [rebT]
   cases hk : decide (k = 1) with
   | true =>
     obtain ⟨h0, rfl, rfl⟩ := Q1Q hg.1 hk
     obtain rfl := of_decide_eq_true hk
     rw [cond_true, h n h0]; rfl
   | false => simp only [cond_false, ownTy, QaT h l hg.2]
theorem QaT {f : Int → Ty} (h : ∀ n, 0 ≤ n → f n = tvar n) : ∀ l : List Ty, allTys goodB l = true → ownTys (rebTs f l) = ownTys l
 | [], _ => rfl
 | t :: l, hg => by
   simp only [allTys, Bool.and_eq_true] at hg
   simp only [rebTs, ownTys, Qic h t hg.1, QaT h l hg.2]
end
def moreF (av bv : Int) : Nat → List (Ty × Ty) → (Int → Option Ty) → Bool
 | 0, _, _ => true
 | _ + 1, [], _ => true
 | k + 1, (x, y) :: st, g =>
   bif decide (x.kind = 1) then
    (bif decide (x.n < av) then (match g x.n with
      | some was => bif eqTy was y then moreF av bv k st g else false
      | none => moreF av bv k st (upd g x.n y))
    else bif !decide (y.kind = 1) || (decide (y.n < bv) || !decide (y.n - bv = x.n - av)) then false else moreF av bv k st g)
   else bif !decide (y.kind = 2) || (!decide (x.name = y.name) || !decide (x.args.length = y.args.length)) then false else moreF av bv k ((x.args.zip y.args).reverse ++ st) g
def moreP (av : Int) (t : Ty) (bv : Int) (u : Ty) : Bool := bif !rightSB av t || !rightSB bv u then false else moreF av bv t.size [(t, u)] (fun _ => none)
def sub (av bv : Int) (σ : Int → Ty) (n : Int) : Ty := bif decide (n < av) then σ n else tvar (n - av + bv)
def sumX (l : List (Ty × Ty)) : Nat := (l.map fun p => p.1.size).sum
theorem Q4r (p : Ty × Ty) (l : List (Ty × Ty)) : sumX (p :: l) = p.1.size + sumX l := by simp [sumX]
theorem Qin (a b : List (Ty × Ty)) : sumX (a ++ b) = sumX a + sumX b := by simp [sumX]
theorem Qio (a : List (Ty × Ty)) : sumX a.reverse = sumX a := by simp [sumX]
theorem Qdn : ∀ (a b : List Ty), sumX (a.zip b) ≤ Ty.sizes a
 | [], _ => by simp [sumX]
 | _ :: _, [] => by simp [sumX]
 | t :: a, u :: b => by
   have := Qdn a b
   rw [List.zip_cons_cons, Q4r, Ty.sizes]
   show t.size + _ ≤ _
   omega
theorem Q2P {p : Ty → Bool} : ∀ {l : List Ty}, allTys p l = true → ∀ t ∈ l, allTy p t = true
 | x :: l, h, t, ht => by
   simp only [allTys, Bool.and_eq_true] at h
   rcases List.mem_cons.1 ht with rfl | ht
   ·exact h.1
   ·exact Q2P h.2 t ht
theorem Q2l {v : Int} {t : Ty} (h : rightSB v t = true) : rightTyB t = true ∧ 0 ≤ v ∧ v ≤ 256 := by
 unfold rightSB at h
 simpa [Bool.and_eq_true] using h
def numI (n : Int) : Bool := decide (-9223372036854775808 ≤ n) && decide (n ≤ 9223372036854775807)
theorem QcQ {n : Int} : numI n = true ↔ -9223372036854775808 ≤ n ∧ n ≤ 9223372036854775807 := by unfold numI; rw [Bool.and_eq_true, decide_eq_true_eq, decide_eq_true_eq]
def numB (u : Ty) : Bool := numI u.n
structure Sch where
 vars : Int
 ty : Ty
namespace Sch
def cells (x : Sch) : List AV := .int .i64 x.vars :: x.ty.cells
abbrev enc (x : Sch) : AV := .agg x.cells
end Sch
mutual
theorem QcR : ∀ t : Ty, allTy goodB t = true → allTy numB t = true → allTy (varB fun n => decide (0 ≤ n) && decide (n ≤ 9223372036854775807)) t = true
 | .mk k n s l b, hg, hn => by
   simp only [allTy, Bool.and_eq_true] at hg hn ⊢
   refine ⟨?_, QaK l hg.2 hn.2⟩
   show (!decide (k = 1) || (decide (0 ≤ n) && decide (n ≤ 9223372036854775807))) = true
   cases hk : decide (k = 1) with
   | true =>
     have h1 := QcQ.1 (show numI n = true from hn.1)
     rw [decide_eq_true (Q1Q hg.1 hk).1, decide_eq_true h1.2]; rfl
   | false => rfl
theorem QaK : ∀ l : List Ty, allTys goodB l = true → allTys numB l = true → allTys (varB fun n => decide (0 ≤ n) && decide (n ≤ 9223372036854775807)) l = true
 | [], _, _ => rfl
 | t :: l, hg, hn => by
   simp only [allTys, Bool.and_eq_true] at hg hn ⊢
   exact ⟨QcR t hg.1 hn.1, QaK l hg.2 hn.2⟩
end
structure SchOK (x : Sch) : Prop where
 size : x.ty.size < 2^28
 names : NamesTy x.ty
 num : allTy numB x.ty = true
theorem SchOK.var {x : Sch} (h : SchOK x) (hr : rightTyB x.ty = true) : allTy (varB fun n => decide (0 ≤ n) && decide (n ≤ 9223372036854775807)) x.ty = true := QcR _ (Q1M hr) h.num
end Go.Am
namespace Go.Proofs.YtobelgghegmhhaaGreatDoor
open Go Go.Am
set_option linter.unusedVariables false
set_option maxRecDepth 4000
def encP (p : Ty × Ty) : AV := .agg (p.1.cells ++ p.2.cells)
theorem Q5i (p : Ty × Ty) : (encP p).cells = p.1.cells ++ p.2.cells := rfl
theorem Q7Z (p : Ty × Ty) : (encP p).cells.length = 8 := by rw [Q5i, List.length_append, Ty.cells_len, Ty.cells_len]
def flatP (l : List (Ty × Ty)) : List AV := flatL (l.map encP)
theorem Q6h (l : List (Ty × Ty)) : (flatP l).length = l.length * 8 := by
 have := Q6g (sz := 8) (l := l.map encP) (fun v hv => by obtain ⟨p, _, rfl⟩ := List.mem_map.1 hv; exact Q7Z p)
 simpa [flatP] using this
theorem Q5j (l : List (Ty × Ty)) (p : Ty × Ty) : flatP (l ++ [p]) = flatP l ++ (p.1.cells ++ p.2.cells) := by
 unfold flatP
 rw [List.map_append, Qgj]
 simp [flatL, Q5i]
def Stk (s : St) (loc : Nat) (l : List (Ty × Ty)) : Prop := ∃ rest : List Slot, s.locs[loc]? = some (.var ((flatP l).map .val ++ rest))
theorem Stk.lt {s : St} {loc : Nat} {l : List (Ty × Ty)} (h : Stk s loc l) : loc < s.locs.length := by
 obtain ⟨r, h⟩ := h
 exact (List.getElem?_eq_some_iff.1 h).1
theorem Stk.move {s s' : St} {loc : Nat} {l : List (Ty × Ty)} (h : Stk s loc l) (g : ∀ o, s.locs[loc]? = some o → s'.locs[loc]? = some o) : Stk s' loc l := by
 obtain ⟨r, h⟩ := h
 exact ⟨r, g _ h⟩
theorem Stk.pop {s : St} {loc : Nat} {l : List (Ty × Ty)} {p : Ty × Ty} (h : Stk s loc (l ++ [p])) : Stk s loc l := by
 obtain ⟨r, h⟩ := h
 rw [Q5j, List.map_append, List.append_assoc] at h
 exact ⟨_, h⟩
theorem Stk.top {s : St} {loc : Nat} {l : List (Ty × Ty)} {p : Ty × Ty} (h : Stk s loc (l ++ [p])) : ldV (C.ti Qs) false s (.val (.vp loc (l.length * 8))) = some (.val (.agg (p.1.cells ++ p.2.cells))) := by
 obtain ⟨r, h⟩ := h
 rw [Q5j, List.map_append, List.append_assoc] at h
 rw [Z3 h, List.drop_left' (by rw [List.length_map, Q6h]), Q0Q, List.take_left' (by rw [List.length_map, List.length_append, Ty.cells_len, Ty.cells_len])]
 exact Qe6 QeZ (by rw [Q0Q, List.length_append, Ty.cells_len, Ty.cells_len])
theorem Stk.push {s : St} {loc : Nat} {l : List (Ty × Ty)} (h : Stk s loc l) (p : Ty × Ty) (hb : l.length < 2^30) {y : Slot} (hy : y.list? = some [encP p]) :
  ∃ s', appendV Qs (C.ti Qs) s (.val (.vs loc Qs 8 0 l.length)) y = some (.val (.vs s.locs.length Qs 8 0 (l.length + 1)), s') ∧ Stk s' s.locs.length (l ++ [p]) ∧ (∀ s0, Grew s0 s → s0.locs.length ≤ loc → Grew s0 s') ∧ (∀ (j : Nat) (o : Am.Obj), j ≠ loc → s.locs[j]? = some o → s'.locs[j]? = some o) := by
 have hl := h.lt
 obtain ⟨r, h⟩ := h
 refine ⟨{ s with locs := s.locs.set loc .dead ++ [.var ((flatP l).map .val ++ (flatL [encP p]).map .val)] }, ?_, ⟨[], ?_⟩, fun s0 g hb => (Q6k g hb .dead).addLoc _, fun j o hj ho => ?_⟩
 ·unfold appendV
  rw [hy]
  simp only [Q0S (l := [encP p]) (sz := (C.ti Qs).size) (by intro v hv; rw [List.mem_singleton.1 hv, Q0Q]; exact Q7Z p) (by rw [Q0Q]; decide), cond_true, h]
  rw [if_pos ⟨trivial, by rw [List.length_append, List.length_map, Q6h]; omega, by rw [Q61, List.length_singleton]; omega, by rw [List.length_singleton]; omega⟩, List.take_left' (by rw [List.length_map, Q6h])]
  rfl
 ·simp only []
  rw [List.getElem?_append_right (by rw [List.length_set]; exact Nat.le_refl _), List.length_set, Nat.sub_self, Q5j]
  simp [flatL, Q5i]
 ·have hj2 := (List.getElem?_eq_some_iff.1 ho).1
  simp only []
  rw [List.getElem?_append_left (by rw [List.length_set]; exact hj2), List.getElem?_set_ne (Ne.symm hj)]; exact ho
theorem QgY (loc n : Nat) : sliceS (C.ti Q09) 8 (.val (.vs loc Qs 8 0 (n + 1))) none (some (.val (.int .i64 n))) none = some (.val (.vs loc Qs 8 0 n)) := by
 have hb : bound (some (.val (.int .i64 (n : Int)))) (n + 1) (n + 1) = some n := Qg7 (by omega)
 simp only [sliceS, QeW, QcH, sliceV, hb]
 rfl
def MapTI (s : St) (M : Nat) (g : Int → Option Ty) : Prop := ∃ es c D, s.locs[M]? = some (.map es c) ∧ MapIs ekI Ty.enc g es c D
theorem MapTI.move {s s' : St} {M : Nat} {g : Int → Option Ty} (h : MapTI s M g) (k : ∀ o, s.locs[M]? = some o → s'.locs[M]? = some o) : MapTI s' M g := by
 obtain ⟨es, c, D, h1, h2⟩ := h
 exact ⟨es, c, D, k _ h1, h2⟩
theorem MapTI.get {s : St} {M : Nat} {g : Int → Option Ty} (h : MapTI s M g) (n : Int) : lookupS (C.ti Q1) (C.ti Q3) s (.val (.mp M)) (.val (.int .i64 n)) true = some (.val (.tup [((g n).getD zeroTy).enc, .bool (g n).isSome])) := by
 obtain ⟨es, c, D, h1, h2⟩ := h
 have := Q4C h2 keyInt n (kt := C.ti Q1) (et := C.ti Q3) (Q1U Q1l n) h1 (z := zeroTy.enc) (Qhg QfZ Q7W Qg1 (by rw [Q43]; rfl)) true
 simp only [ekI] at this
 rw [this]
 cases g n <;> rfl
theorem MapTI.set {s : St} {M : Nat} {g : Int → Option Ty} (h : MapTI s M g) (n : Int) (v : Ty) :
  ∃ es c, updateS (C.ti Q1) (C.ti Q3) s (.val (.mp M)) (.val (.int .i64 n)) (.val v.enc) = some (.no, { s with locs := s.locs.set M (.map es c) }) ∧ MapTI { s with locs := s.locs.set M (.map es c) } M (upd g n v) := by
 obtain ⟨es, c, D, h1, h2⟩ := h
 obtain ⟨es', c', D', e1, e2⟩ := Q7S h2 keyInt (kt := C.ti Q1) (et := C.ti Q3) n (Q1U Q1l n) h1 (x := .val v.enc) (v := v) rfl (by rw [Q43]; exact Ty.cells_len v)
 exact ⟨es', c', e1, es', c', D', Q4Z h1, e2⟩
theorem QaG (X2 X3 : List Slot) (M : Nat) (x y : Ty) (hxy : x.args.length = y.args.length) (hxl : x.args.length < 2^28) (s0 : St) (hb : s0.locs.length ≤ M) (g : Int → Option Ty) : ∀ (suf suf' pre pre' : List Ty) (l : List (Ty × Ty)) (loc : Nat) (s : St) (i : Nat), pre ++ suf = x.args → pre' ++ suf' = y.args → i = pre.length → pre'.length = pre.length → l.length + suf.length < 2^30 → Stk s loc l → MapTI s M g → M < loc → Grew s0 s →
  ∃ s' loc', Q0r X2 X3 (.val (.mp M)) (.val (.vs loc Qs 8 0 l.length)) ((x.cells ++ y.cells).map .val) (.val (.int .i64 x.args.length)) (.val (.int .i64 i)) s = QR X2 X3 (.val (.mp M)) (.val (.vs loc' Qs 8 0 (l ++ suf.zip suf').length)) s' ∧ Stk s' loc' (l ++ suf.zip suf') ∧ MapTI s' M g ∧ M < loc' ∧ Grew s0 s'
 | [], suf', pre, pre', l, loc, s, i, h, h', hi, hp, hl, hS, hM, hlt, G => by
   subst hi
   refine ⟨s, loc, ?_, by simpa using hS, hM, hlt, G⟩
   rw [Q3e]
   simp only [go_sem, Nat.reduceLeDiff, Nat.reduceSub, Qi (by simpa using h), List.zip_nil_left, List.append_nil]
 | t :: suf, [], pre, pre', l, loc, s, i, h, h', hi, hp, hl, hS, hM, hlt, G => by
   have h1 := congrArg List.length h
   have h2 := congrArg List.length h'
   simp only [List.length_append, List.length_nil, List.length_cons] at h1 h2
   omega
 | t :: suf, u :: suf', pre, pre', l, loc, s, i, h, h', hi, hp, hl, hS, hM, hlt, G => by
   subst hi
   simp only [List.length_cons] at hl
   have cx := Ty.cells_eq x
   have cy := Ty.cells_eq y
   obtain ⟨f1, f2, f3⟩ := Qe (x := .val (encS x.nl (x.args.map Ty.enc))) (Qb _ _) h (by omega) (Ty.cells_len t) (by decide)
   obtain ⟨-, f5, -⟩ := Qe (x := .val (encS y.nl (y.args.map Ty.enc))) (Qb _ _) h' (by omega) (Ty.cells_len u) (by decide)
   rw [hp] at f5
   have ct := Ty.cells_eq t
   have cu := Ty.cells_eq u
   obtain ⟨s1, e1, S1, G1, K1⟩ := hS.push (t, u) (by omega) (y := .full [encP (t, u)]) rfl
   obtain ⟨s2, loc2, e2, S2, M2, L2, G2⟩ := QaG X2 X3 M x y hxy hxl s0 hb g suf suf' (pre ++ [t]) (pre' ++ [u]) (l ++ [(t, u)]) s.locs.length s1 (pre.length + 1) (by simpa using h) (by simpa using h') (by simp) (by simp [hp]) (by simp; omega) S1 (hM.move fun o => K1 M o (by omega)) (by have := hS.lt; omega) (G1 s0 G (by omega))
   refine ⟨s2, loc2, ?_, by simpa using S2, M2, L2, G2⟩
   rw [Q3e]
   simp only [List.length_append, List.length_singleton, List.append_assoc, List.singleton_append, cx, cy, List.map_cons, List.map_nil, List.cons_append, List.nil_append] at e2 ⊢
   simp only [encP, ct, cu, List.cons_append, List.nil_append] at e1
   simp only [go_sem, Nat.reduceAdd, Nat.reduceLeDiff, f1, f2, f3, f5, ct, cu, e1, List.zip_cons_cons, List.length_cons]
   exact e2
structure PairOK (p : Ty × Ty) : Prop where
 vx : allTy (varB fun n => decide (0 ≤ n) && decide (n ≤ 9223372036854775807)) p.1 = true
 vy : allTy (varB fun n => decide (0 ≤ n) && decide (n ≤ 9223372036854775807)) p.2 = true
 sx : p.1.size < 2^28
 sy : p.2.size < 2^28
theorem PairOK.var {t : Ty} (h : allTy (varB fun n => decide (0 ≤ n) && decide (n ≤ 9223372036854775807)) t = true) (hk : decide (t.kind = 1) = true) : 0 ≤ t.n ∧ t.n ≤ 9223372036854775807 := by
 cases t with
 | mk k n s l b =>
   simp only [allTy, Bool.and_eq_true] at h
   have := Q1R h.1 hk
   simp only [Bool.and_eq_true, decide_eq_true_eq] at this
   exact this
theorem PairOK.kids {p : Ty × Ty} (h : PairOK p) : ∀ q ∈ p.1.args.zip p.2.args, PairOK q := by
 intro q hq
 have hm := List.of_mem_zip (a := q.1) (b := q.2) hq
 obtain ⟨⟨kx, nx, sx, lx, bx⟩, ⟨ky, ny, sy, ly, by'⟩⟩ := p
 obtain ⟨h1, h2, h3, h4⟩ := h
 simp only [Ty.args] at hm
 simp only [allTy, Bool.and_eq_true] at h1 h2
 simp only [Ty.size] at h3 h4
 have a1 := Ty.mem_sizes hm.1
 have a2 := Ty.mem_sizes hm.2
 exact ⟨Q2P h1.2 _ hm.1, Q2P h2.2 _ hm.2, by omega, by omega⟩
theorem QgA (av bv : Int) (k : Nat) (x y : Ty) (st : List (Ty × Ty)) (g : Int → Option Ty) : moreF av bv (k + 1) ((x, y) :: st) g =
  bif decide (x.kind = 1) then
   (bif decide (x.n < av) then (match g x.n with
     | some was => bif eqTy was y then moreF av bv k st g else false
     | none => moreF av bv k st (upd g x.n y))
   else bif !decide (y.kind = 1) || (decide (y.n < bv) || !decide (y.n - bv = x.n - av)) then false else moreF av bv k st g)
  else bif !decide (y.kind = 2) || (!decide (x.name = y.name) || !decide (x.args.length = y.args.length)) then false else moreF av bv k ((x.args.zip y.args).reverse ++ st) g := rfl
theorem Q6r (av bv : Int) (t u : Ty) (ha : 0 ≤ av ∧ av ≤ 256) (hb : 0 ≤ bv ∧ bv ≤ 256) (M : Nat) (s0 : St) (hM0 : s0.locs.length ≤ M) : ∀ (k : Nat) (st : List (Ty × Ty)) (g : Int → Option Ty) (loc : Nat) (s : St), k < 2^28 → sumX st ≤ k → (∀ p ∈ st, PairOK p) → (∀ n w, g n = some w → w.size < 2^28) → Stk s loc st.reverse → MapTI s M g → M < loc → Grew s0 s →
  Ret (QR ((AV.int .i64 av :: t.cells).map .val) ((AV.int .i64 bv :: u.cells).map .val) (.val (.mp M)) (.val (.vs loc Qs 8 0 st.length)) s) s0 (.bool (moreF av bv k st g))
 | k, [], g, loc, s, hk, hs, hp, hg, hS, hM, hlt, G => by
   have z : decide (((0 : Nat) : Int) > 0) = false := rfl
   have : moreF av bv k [] g = true := by cases k <;> rfl
   rw [Q3d, this]
   simp only [go_sem, List.length_nil, z]
   exact ⟨s, rfl, G⟩
 | 0, (x, y) :: st, g, loc, s, hk, hs, _, _, _, _, _, _ => by
   have := Ty.size_pos x
   rw [Q4r] at hs
   simp only at hs
   omega
 | k + 1, (x, y) :: st, g, loc, s, hk, hs, hp, hg, hS, hM, hlt, G => by
   rw [Q4r] at hs
   simp only at hs
   have hsz : Ty.sizes x.args + 1 = x.size := by cases x; simp only [Ty.size, Ty.args]
   have hal := Ty.len_sizes x.args
   have hpos := Ty.size_pos x
   have hst : st.length ≤ sumX st := by
    clear hs hp hS
    induction st with
    | nil => simp
    | cons q st ih =>
      have := Ty.size_pos q.1
      rw [Q4r, List.length_cons]; omega
   have P := hp _ List.mem_cons_self
   have hps := fun p h => hp p (List.mem_cons_of_mem _ h)
   have cx := Ty.cells_eq x
   have cy := Ty.cells_eq y
   have ct := Ty.cells_eq t
   have cu := Ty.cells_eq u
   rw [List.reverse_cons] at hS
   have hT := hS.top
   have hS' := hS.pop
   rw [List.length_reverse] at hT
   have z : decide (((st.length + 1 : Nat) : Int) > 0) = true := decide_eq_true (by omega)
   have w1 : IntKind.i64.wrap (((st.length + 1 : Nat) : Int) - 1) = (st.length : Int) := by rw [wrap64 (by omega) (by omega)]; omega
   have f1 : ixS 8 (.val (.vs loc Qs 8 0 (st.length + 1))) (.val (.int .i64 (st.length : Int))) = some (.val (.vp loc (st.length * 8))) := by
    rw [Qls (by omega) (by decide), Nat.zero_add]
   have f2 := QgY loc st.length
   have ih := fun g' s' (a : ∀ n w, g' n = some w → w.size < 2^28) (b : Stk s' loc st.reverse) (c : MapTI s' M g') (d : Grew s0 s') => Q6r av bv t u ha hb M s0 hM0 k st g' loc s' (by omega) (by omega) hps a b c hlt d
   rw [Q3d, QgA]
   cases hkx : decide (x.kind = 1) with
   | true =>
     have hx : 0 ≤ x.n ∧ x.n ≤ 9223372036854775807 := PairOK.var P.vx hkx
     cases hn : decide (x.n < av) with
     | true =>
       have hget := hM.get x.n
       cases hgx : g x.n with
       | some was =>
         have e1 := Qdt was (Z6 was (hg _ _ hgx)) y s
         have cw' := Ty.cells_eq was
         rw [hgx] at hget
         cases he : eqTy was y with
         | true =>
           have i := ih g s hg hS' hM G
           rw [he] at e1
           simp only [Option.getD_some, Option.isSome_some, Ty.enc, cw', cx, cy, ct, cu, List.map_cons, List.map_nil, List.cons_append, List.nil_append] at hT e1 hget i ⊢
           simp only [go_sem, Nat.reduceAdd, Nat.reduceLeDiff, List.length_cons, z, w1, f1, f2, hT, hkx, hn, hget, e1, he, cond_true, cond_false]
           exact i
         | false =>
           rw [he] at e1
           simp only [Option.getD_some, Option.isSome_some, Ty.enc, cw', cx, cy, ct, cu, List.map_cons, List.map_nil, List.cons_append, List.nil_append] at hT e1 hget ⊢
           simp only [go_sem, Nat.reduceAdd, Nat.reduceLeDiff, List.length_cons, z, w1, f1, f2, hT, hkx, hn, hget, e1, he, cond_true, cond_false]
           exact ⟨s, rfl, G⟩
       | none =>
         rw [hgx] at hget
         obtain ⟨es, c, eu, hM'⟩ := hM.set x.n y
         have i := ih (upd g x.n y) { s with locs := s.locs.set M (.map es c) } (fun n w h => by
          unfold upd at h
          split at h
          ·cases h; exact P.sy
          ·exact hg n w h) (hS'.move fun o ho => by
           show (s.locs.set M _)[loc]? = _
           rw [List.getElem?_set_ne (by omega)]; exact ho) hM' (Q6k G hM0 _)
         simp only [Option.getD_none, Option.isSome_none, Ty.enc, zeroTy, Ty.cells_mk, cx, cy, ct, cu, List.map_cons, List.map_nil, List.cons_append, List.nil_append] at hT eu hget i ⊢
         simp only [go_sem, Nat.reduceAdd, Nat.reduceLeDiff, List.length_cons, z, w1, f1, f2, hT, hkx, hn, hget, eu, cond_true]
         exact i
     | false =>
       have hn' := of_decide_eq_false hn
       have hk1 : decide (x.kind = 1) = true := hkx
       have i := ih g s hg hS' hM G
       have w2 : IntKind.i64.wrap (x.n - av) = x.n - av := wrap64 (by omega) (by omega)
       cases hky : decide (y.kind = 1) with
       | false =>
         simp only [cx, cy, ct, cu, List.map_cons, List.map_nil, List.cons_append, List.nil_append] at hT ⊢
         simp only [go_sem, Nat.reduceAdd, Nat.reduceLeDiff, List.length_cons, z, w1, f1, f2, hT, hkx, hn, hky, cond_true, cond_false]
         exact ⟨s, rfl, G⟩
       | true =>
         have hy : 0 ≤ y.n ∧ y.n ≤ 9223372036854775807 := PairOK.var P.vy hky
         cases hm : decide (y.n < bv) with
         | true =>
           simp only [cx, cy, ct, cu, List.map_cons, List.map_nil, List.cons_append, List.nil_append] at hT ⊢
           simp only [go_sem, Nat.reduceAdd, Nat.reduceLeDiff, List.length_cons, z, w1, f1, f2, hT, hkx, hn, hky, hm, cond_true, cond_false]
           exact ⟨s, rfl, G⟩
         | false =>
           have hm' := of_decide_eq_false hm
           have w3 : IntKind.i64.wrap (y.n - bv) = y.n - bv := wrap64 (by omega) (by omega)
           cases hd : decide (y.n - bv = x.n - av) with
           | true =>
             simp only [cx, cy, ct, cu, List.map_cons, List.map_nil, List.cons_append, List.nil_append] at hT i ⊢
             simp only [go_sem, Nat.reduceAdd, Nat.reduceLeDiff, List.length_cons, z, w1, w2, w3, f1, f2, hT, hkx, hn, hky, hm, hd, cond_true, cond_false]
             exact i
           | false =>
             simp only [cx, cy, ct, cu, List.map_cons, List.map_nil, List.cons_append, List.nil_append] at hT ⊢
             simp only [go_sem, Nat.reduceAdd, Nat.reduceLeDiff, List.length_cons, z, w1, w2, w3, f1, f2, hT, hkx, hn, hky, hm, hd, cond_true, cond_false]
             exact ⟨s, rfl, G⟩
   | false =>
     cases hky : decide (y.kind = 2) with
     | false =>
       simp only [cx, cy, ct, cu, List.map_cons, List.map_nil, List.cons_append, List.nil_append] at hT ⊢
       simp only [go_sem, Nat.reduceAdd, Nat.reduceLeDiff, List.length_cons, z, w1, f1, f2, hT, hkx, hky, cond_true, cond_false]
       exact ⟨s, rfl, G⟩
     | true =>
       cases hnm : decide (x.name = y.name) with
       | false =>
         simp only [cx, cy, ct, cu, List.map_cons, List.map_nil, List.cons_append, List.nil_append] at hT ⊢
         simp only [go_sem, Nat.reduceAdd, Nat.reduceLeDiff, List.length_cons, z, w1, f1, f2, hT, hkx, hky, hnm, cond_true, cond_false]
         exact ⟨s, rfl, G⟩
       | true =>
         have hil : ∀ a b : Nat, decide ((a : Int) = (b : Int)) = decide (a = b) := fun a b => by
          by_cases h : a = b
          ·rw [decide_eq_true h, decide_eq_true (by omega)]
          ·rw [decide_eq_false h, decide_eq_false (by omega)]
         have hle := hil x.args.length y.args.length
         cases hl : decide (x.args.length = y.args.length) with
         | false =>
           rw [hl] at hle
           simp only [cx, cy, ct, cu, List.map_cons, List.map_nil, List.cons_append, List.nil_append] at hT ⊢
           simp only [go_sem, Nat.reduceAdd, Nat.reduceLeDiff, List.length_cons, z, w1, f1, f2, hT, hkx, hky, hnm, Qb, List.length_map, hle, cond_true, cond_false]
           exact ⟨s, rfl, G⟩
         | true =>
           rw [hl] at hle
           have hl' := of_decide_eq_true hl
           have hlen : st.reverse.length + x.args.length < 2^30 := by rw [List.length_reverse]; omega
           obtain ⟨s', loc', e1, S1, M1, L1, G1⟩ := QaG ((AV.int .i64 av :: t.cells).map .val) ((AV.int .i64 bv :: u.cells).map .val) M x y hl' (by omega) s0 hM0 g x.args y.args [] [] st.reverse loc s 0 rfl rfl rfl rfl hlen hS' hM hlt G
           have hrev : st.reverse ++ x.args.zip y.args = ((x.args.zip y.args).reverse ++ st).reverse := by simp
           have hz := Qdn x.args y.args
           have i := Q6r av bv t u ha hb M s0 hM0 k ((x.args.zip y.args).reverse ++ st) g loc' s' (by omega) (by rw [Qin, Qio]; omega) (fun p h => by
            rcases List.mem_append.1 h with h | h
            ·exact P.kids p (List.mem_reverse.1 h)
            ·exact hps p h) hg (by rw [← hrev]; exact S1) M1 L1 G1
           rw [hrev, List.length_reverse, List.length_reverse, show ((0 : Nat) : Int) = 0 from rfl] at e1
           rw [← e1] at i
           simp only [cx, cy, ct, cu, List.map_cons, List.map_nil, List.cons_append, List.nil_append] at hT i ⊢
           simp only [go_sem, Nat.reduceAdd, Nat.reduceLeDiff, List.length_cons, z, w1, f1, f2, hT, hkx, hky, hnm, Qb, List.length_map, hle, cond_true, cond_false]
           exact i
end Go.Proofs.YtobelgghegmhhaaGreatDoor