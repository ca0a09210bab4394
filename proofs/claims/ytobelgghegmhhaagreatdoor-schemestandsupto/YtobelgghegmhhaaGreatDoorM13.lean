/- A part of the proof: PTy4, PSch2, SSch5, PSch3. -/
import Derived.Test.YtobelgghegmhhaaGreatDoorM12
set_option linter.unusedVariables false
set_option linter.unusedSimpArgs false
namespace Go.Am
open Go
def rangeI (m : Nat) : List Int := (List.range m).map fun i : Nat => (i : Int)
theorem Q7p (m : Nat) : rangeI (m + 1) = rangeI m ++ [(m : Int)] := by simp [rangeI, List.range_succ]
theorem Q8V (m : Nat) : (rangeI m).length = m := by simp [rangeI]
theorem Q1C {n : Int} : ∀ {l : List Int} {i : Nat}, n ∉ l → placeI n l i = none
 | [], _, _ => rfl
 | m :: l, i, h => by
   simp only [placeI]
   rw [if_neg (fun e => h (by simp [e]))]
   exact Q1C fun hm => h (List.mem_cons_of_mem _ hm)
theorem Q6m : ∀ (m i : Nat), i < m → placeI (i : Int) (rangeI m) 0 = some i
 | 0, _, h => by omega
 | m + 1, i, h => by
   rw [Q7p]
   by_cases hi : i < m
   ·exact Q3t (Q6m m i hi)
   ·obtain rfl : i = m := by omega
    rw [toCanon_ty.placeI_app', Q1C (by simp [rangeI]; omega)]
    simp [Q8V]
theorem Qbn (n : Int) (x : List Int) : ∃ p : Nat, (toCanon n x).1 = tvar p ∧ toCanon (p : Int) (rangeI x.length) = ((toCanon n x).1, rangeI (toCanon n x).2.length) := by
 cases h : placeI n x 0 with
 | some i =>
   have hi := (Z9 h).2.1
   have e : toCanon n x = (tvar (i : Int), x) := by simp only [toCanon, h]
   refine ⟨i, by rw [e], ?_⟩
   rw [e]
   simp only [toCanon, Q6m x.length i (by omega)]
 | none =>
   have e : toCanon n x = (tvar (x.length : Int), x ++ [n]) := by simp only [toCanon, h]
   refine ⟨x.length, by rw [e], ?_⟩
   rw [e]
   simp only [toCanon, List.length_append, List.length_singleton]
   rw [Q1C (by simp [rangeI]; omega)]
   simp only [Q8V, Q7p]
mutual
theorem Qhi : ∀ (t : Ty) (x : List Int), chTy toCanon (chTy toCanon t x).1 (rangeI x.length) = ((chTy toCanon t x).1, rangeI (chTy toCanon t x).2.length)
 | .mk k n s l b, x => by
   simp only [chTy]
   cases hk : decide (k = 1) with
   | true =>
     simp only [cond_true]
     obtain ⟨p, e1, e2⟩ := Qbn n x
     rw [e1] at e2 ⊢
     have : chTy toCanon (tvar p) (rangeI x.length) = toCanon p (rangeI x.length) := by simp only [tvar, chTy, decide_true, cond_true]
     rw [this, e2]
   | false =>
     simp only [cond_false, chTy, hk, Qa8 l x]
theorem Qa8 : ∀ (l : List Ty) (x : List Int), chTys toCanon (chTys toCanon l x).1 (rangeI x.length) = ((chTys toCanon l x).1, rangeI (chTys toCanon l x).2.length)
 | [], x => by simp only [chTys]
 | t :: l, x => by
   simp only [chTys]
   rw [Qhi t x]
   simp only []
   rw [Qa8 l (chTy toCanon t x).2]
end
mutual
theorem QiZ : ∀ (t : Ty) (x fin : List Int), Ext (chTy toCanon t x).2 fin → allTy goodB t = true → eqTy (putTy (chTy toCanon t x).1 (fin.map tvar)) t = true
 | .mk k n s l b, x, fin, h, g => by
   simp only [allTy, Bool.and_eq_true] at g
   simp only [chTy] at h ⊢
   by_cases hk : k = 1
   ·obtain ⟨h0, rfl, rfl⟩ := Q04 g.1 hk
    rw [decide_eq_true hk] at h ⊢
    simp only [cond_true] at h ⊢
    obtain ⟨e1, j, hj⟩ := toCanon_ty h
    have hpl := Z9 hj
    have ep : placeR n fin = (j : Int) := by unfold placeR; rw [hj]
    rw [e1, ep]
    have : putTy (tvar (j : Int)) (fin.map tvar) = tvar n := by
     simp only [putTy, tvar, chTy, decide_true, cond_true, toPut]
     have hjl : j < fin.length := by omega
     rw [if_pos ⟨by omega, by simp; omega⟩, List.getD_eq_getElem?_getD]
     have := hpl.2.2
     simp only [Nat.sub_zero] at this
     simp [this, ownTy, ownTys, tvar]
    rw [this]
    simp [tvar, eqTy, eqTys, hk]
   ·rw [decide_eq_false hk] at h ⊢
    simp only [cond_false] at h ⊢
    have ih := QbU l x fin h g.2
    simp only [putTy, chTy]
    rw [decide_eq_false hk]
    simp only [cond_false, eqTy, ih, decide_true, Bool.and_self]
theorem QbU : ∀ (l : List Ty) (x fin : List Int), Ext (chTys toCanon l x).2 fin → allTys goodB l = true → eqTys (chTys (toPut (fin.map tvar)) (chTys toCanon l x).1 ()).1 l = true
 | [], _, _, _, _ => by simp only [chTys, eqTys]
 | t :: l, x, fin, h, g => by
   simp only [allTys, Bool.and_eq_true] at g
   simp only [chTys] at h ⊢
   have h1 := QiZ t x fin ((Q0p l _).trans h) g.1
   have h2 := QbU l _ fin h g.2
   simp only [putTy] at h1
   simp only [eqTys, h1, h2, Bool.and_self]
end
def headA (s t : Ty) : Bool := decide (s.kind = t.kind) && decide (s.name = t.name) && decide (s.args.length = t.args.length) && (decide (s.kind = 1) || decide (s.n = t.n))
def innerA (s t : Ty) : List Ty → List Ty → Bool
 | a :: A, b :: B => !(decide (a.kind = 1) && !(decide (a.n = s.n) == decide (b.n = t.n))) && innerA s t A B
 | _, _ => true
def alikeL : List Ty → List Ty → List Ty → List Ty → Bool
 | pa, pb, s :: X, t :: Y => headA s t && (bif decide (s.kind = 1) then innerA s t pa pb else true) && alikeL (pa ++ [s]) (pb ++ [t]) X Y
 | _, _, _, _ => true
theorem Q8F (s t : Ty) : ∀ (A B : List Ty), A.length = B.length → (innerA s t A B = true ↔ ∀ (k : Nat) (a b : Ty), A[k]? = some a → B[k]? = some b → a.kind = 1 → (a.n = s.n ↔ b.n = t.n))
 | [], [], _ => by simp [innerA]
 | [], _ :: _, h => by simp at h
 | _ :: _, [], h => by simp at h
 | a :: A, b :: B, h => by
   have ih := Q8F s t A B (by simpa using h)
   simp only [innerA, Bool.and_eq_true, ih]
   constructor
   ·rintro ⟨h1, h2⟩ k a' b' ha hb hk
    cases k with
    | zero =>
      simp only [List.getElem?_cons_zero, Option.some.injEq] at ha hb
      subst ha; subst hb
      rw [decide_eq_true hk] at h1
      simp only [Bool.true_and, Bool.not_not, beq_iff_eq] at h1
      exact decide_eq_decide.1 h1
    | succ k => exact h2 k a' b' (by simpa using ha) (by simpa using hb) hk
   ·intro h1
    refine ⟨?_, fun k a' b' ha hb => h1 (k + 1) a' b' (by simpa using ha) (by simpa using hb)⟩
    by_cases hk : a.kind = 1
    ·have := h1 0 a b rfl rfl hk
     have e : decide (a.n = s.n) = decide (b.n = t.n) := decide_eq_decide.2 this
     rw [decide_eq_true hk, e]; simp
    ·rw [decide_eq_false hk]; simp
structure Met (pa pb : List Ty) (x y : List Int) : Prop where
 len : pa.length = pb.length
 xlen : x.length = y.length
 kind : ∀ (k : Nat) (a b : Ty), pa[k]? = some a → pb[k]? = some b → (a.kind = 1 ↔ b.kind = 1) ∧ (a.kind = 1 → ∃ j, placeI a.n x 0 = some j ∧ placeI b.n y 0 = some j)
 cx : ∀ n j, placeI n x 0 = some j → ∃ (k : Nat) (a : Ty), pa[k]? = some a ∧ a.kind = 1 ∧ a.n = n
 cy : ∀ n j, placeI n y 0 = some j → ∃ (k : Nat) (b : Ty), pb[k]? = some b ∧ b.kind = 1 ∧ b.n = n
def posC (n : Int) (x : List Int) : Nat := match placeI n x 0 with | some i => i | none => x.length
theorem Q2Q (n : Int) (x : List Int) : (toCanon n x).1 = tvar (posC n x) := by
 unfold toCanon posC
 cases placeI n x 0 <;> rfl
theorem Q8T {n m : Int} {l : List Int} {j : Nat} (h : placeI n l 0 = some j) (g : placeI m l 0 = some j) : n = m := by
 have h1 := (Z9 h).2.2
 have h2 := (Z9 g).2.2
 rw [h1] at h2
 exact Option.some.inj h2
theorem Met.inner {pa pb : List Ty} {x y : List Int} (M : Met pa pb x y) (s t : Ty) : innerA s t pa pb = true ↔ posC s.n x = posC t.n y := by
 rw [Q8F s t pa pb M.len]
 have other : ∀ {k : Nat} {a : Ty}, pa[k]? = some a → ∃ b, pb[k]? = some b := fun {k a} h => by
  have := (List.getElem?_eq_some_iff.1 h).1
  exact ⟨_, List.getElem?_eq_getElem (by rw [← M.len]; exact this)⟩
 have other' : ∀ {k : Nat} {b : Ty}, pb[k]? = some b → ∃ a, pa[k]? = some a := fun {k b} h => by
  have := (List.getElem?_eq_some_iff.1 h).1
  exact ⟨_, List.getElem?_eq_getElem (by rw [M.len]; exact this)⟩
 have hxl := M.xlen
 unfold posC
 constructor
 ·intro h
  cases hx : placeI s.n x 0 with
  | some i =>
    obtain ⟨k, a, ha, hk, hn⟩ := M.cx _ _ hx
    obtain ⟨b, hb⟩ := other ha
    obtain ⟨j, h1, h2⟩ := (M.kind k a b ha hb).2 hk
    have := (h k a b ha hb hk).1 hn
    rw [hn, hx] at h1
    cases h1
    rw [this] at h2
    rw [h2]
  | none =>
    cases hy : placeI t.n y 0 with
    | none => exact hxl
    | some i =>
      obtain ⟨k, b, hb, hk, hn⟩ := M.cy _ _ hy
      obtain ⟨a, ha⟩ := other' hb
      have hka := (M.kind k a b ha hb).1.2 hk
      obtain ⟨j, h1, h2⟩ := (M.kind k a b ha hb).2 hka
      have := (h k a b ha hb hka).2 hn
      rw [this, hx] at h1
      cases h1
 ·intro h k a b ha hb hk
  obtain ⟨j, h1, h2⟩ := (M.kind k a b ha hb).2 hk
  have hj1 := (Z9 h1).2.1
  have hj2 := (Z9 h2).2.1
  cases hx : placeI s.n x 0 with
  | some i =>
    have hi := (Z9 hx).2.1
    rw [hx] at h
    cases hy : placeI t.n y 0 with
    | none => rw [hy] at h; simp only at h; omega
    | some i' =>
      rw [hy] at h
      simp only at h
      subst h
      constructor
      ·intro e; rw [e, hx] at h1; cases h1; exact Q8T h2 hy
      ·intro e; rw [e, hy] at h2; cases h2; exact Q8T h1 hx
  | none =>
    rw [hx] at h
    cases hy : placeI t.n y 0 with
    | some i' => have := (Z9 hy).2.1; rw [hy] at h; simp only at h; omega
    | none =>
      constructor
      ·intro e; rw [e, hx] at h1; cases h1
      ·intro e; rw [e, hy] at h2; cases h2
theorem Q5a {α : Type} {l : List α} {a b : α} {k : Nat} (h : (l ++ [a])[k]? = some b) : l[k]? = some b ∨ (k = l.length ∧ b = a) := by
 by_cases hk : k < l.length
 ·rw [List.getElem?_append_left hk] at h; exact .inl h
 ·rw [List.getElem?_append_right (by omega)] at h
  have : k - l.length = 0 := by
   cases hq : k - l.length with
   | zero => rfl
   | succ q => rw [hq] at h; simp at h
  rw [this] at h
  simp at h
  exact .inr ⟨by omega, h.symm⟩
theorem Q6Q {α : Type} {l : List α} {a b : α} {k : Nat} (h : l[k]? = some b) : (l ++ [a])[k]? = some b := by
 rw [List.getElem?_append_left (List.getElem?_eq_some_iff.1 h).1]; exact h
theorem Met.node {pa pb : List Ty} {x y : List Int} (M : Met pa pb x y) {s t : Ty} (hs : s.kind ≠ 1) (ht : t.kind ≠ 1) : Met (pa ++ [s]) (pb ++ [t]) x y where
 len := by simp [M.len]
 xlen := M.xlen
 kind := fun k a b ha hb => by
  rcases Q5a ha with ha | ⟨hk, rfl⟩ <;> rcases Q5a hb with hb | ⟨hk', rfl⟩
  ·exact M.kind k a b ha hb
  ·have := (List.getElem?_eq_some_iff.1 ha).1; have := M.len; omega
  ·have := (List.getElem?_eq_some_iff.1 hb).1; have := M.len; omega
  ·exact ⟨⟨fun h => absurd h hs, fun h => absurd h ht⟩, fun h => absurd h hs⟩
 cx := fun n j h => by obtain ⟨k, a, h1, h2⟩ := M.cx n j h; exact ⟨k, a, Q6Q h1, h2⟩
 cy := fun n j h => by obtain ⟨k, a, h1, h2⟩ := M.cy n j h; exact ⟨k, a, Q6Q h1, h2⟩
theorem Q6l (n : Int) (x : List Int) : placeI n (toCanon n x).2 0 = some (posC n x) := by
 unfold toCanon posC
 cases h : placeI n x 0 with
 | some i => exact h
 | none => simp only []; rw [toCanon_ty.placeI_app', h]; simp
theorem Q7n {m : Int} {j : Nat} (n : Int) {x : List Int} (h : placeI m x 0 = some j) : placeI m (toCanon n x).2 0 = some j := by
 obtain ⟨c, hc⟩ := Q7v n x
 rw [hc]; exact Q3t h
theorem Q7m {m n : Int} {j : Nat} {x : List Int} (h : placeI m (toCanon n x).2 0 = some j) : m = n ∨ placeI m x 0 = some j := by
 unfold toCanon at h
 cases hp : placeI n x 0 with
 | some i => rw [hp] at h; exact .inr h
 | none =>
   rw [hp] at h
   simp only at h
   rw [toCanon_ty.placeI_app'] at h
   cases hm : placeI m x 0 with
   | some i => rw [hm] at h; exact .inr h
   | none =>
     rw [hm] at h
     simp only at h
     split at h
     ·rename_i e; exact .inl e
     ·cases h
theorem Q7w (n : Int) (x : List Int) : (toCanon n x).2.length = if posC n x < x.length then x.length else x.length + 1 := by
 unfold toCanon posC
 cases h : placeI n x 0 with
 | some i => have := (Z9 h).2.1; simp only []; rw [if_pos (by omega)]
 | none => simp
theorem Met.var {pa pb : List Ty} {x y : List Int} (M : Met pa pb x y) {s t : Ty} (hs : s.kind = 1) (ht : t.kind = 1) (hp : posC s.n x = posC t.n y) : Met (pa ++ [s]) (pb ++ [t]) (toCanon s.n x).2 (toCanon t.n y).2 where
 len := by simp [M.len]
 xlen := by rw [Q7w, Q7w, hp, M.xlen]
 kind := fun k a b ha hb => by
  rcases Q5a ha with ha | ⟨hk, rfl⟩ <;> rcases Q5a hb with hb | ⟨hk', rfl⟩
  ·obtain ⟨h1, h2⟩ := M.kind k a b ha hb
   exact ⟨h1, fun h => by obtain ⟨j, g1, g2⟩ := h2 h; exact ⟨j, Q7n _ g1, Q7n _ g2⟩⟩
  ·have := (List.getElem?_eq_some_iff.1 ha).1; have := M.len; omega
  ·have := (List.getElem?_eq_some_iff.1 hb).1; have := M.len; omega
  ·exact ⟨⟨fun _ => ht, fun _ => hs⟩, fun _ => ⟨_, Q6l _ _, by rw [hp]; exact Q6l _ _⟩⟩
 cx := fun n j h => by
  rcases Q7m h with rfl | h
  ·exact ⟨pa.length, s, by simp, hs, rfl⟩
  ·obtain ⟨k, a, h1, h2⟩ := M.cx n j h; exact ⟨k, a, Q6Q h1, h2⟩
 cy := fun n j h => by
  rcases Q7m h with rfl | h
  ·exact ⟨pb.length, t, by simp, ht, rfl⟩
  ·obtain ⟨k, a, h1, h2⟩ := M.cy n j h; exact ⟨k, a, Q6Q h1, h2⟩
theorem QfY (p q : Nat) : eqTy (tvar (p : Int)) (tvar (q : Int)) = decide (p = q) := by
 simp only [tvar, eqTy, eqTys, decide_true, Bool.true_and, Bool.and_true]
 rw [decide_eq_decide]; omega
mutual
theorem QeF : ∀ (t u : Ty) (pa pb : List Ty) (x y : List Int), Met pa pb x y → allTy goodB t = true → allTy goodB u = true →
  (eqTy (chTy toCanon t x).1 (chTy toCanon u y).1 = true → t.size = u.size ∧ Met (pa ++ preTy t) (pb ++ preTy u) (chTy toCanon t x).2 (chTy toCanon u y).2) ∧
  ∀ R S, alikeL pa pb (preTy t ++ R) (preTy u ++ S) = (eqTy (chTy toCanon t x).1 (chTy toCanon u y).1 && alikeL (pa ++ preTy t) (pb ++ preTy u) R S)
 | .mk k n s l b, .mk k' n' s' l' b', pa, pb, x, y, M, g, g' => by
   simp only [allTy, Bool.and_eq_true] at g g'
   have hpre : ∀ R, preTy (.mk k n s l b) ++ R = .mk k n s l b :: (preTys l ++ R) := fun _ => rfl
   have hpre' : ∀ R, preTy (.mk k' n' s' l' b') ++ R = .mk k' n' s' l' b' :: (preTys l' ++ R) := fun _ => rfl
   have hcons : ∀ _ : Unit, pa ++ preTy (.mk k n s l b) = pa ++ [.mk k n s l b] ++ preTys l := fun _ => by simp [preTy]
   have hcons' : ∀ _ : Unit, pb ++ preTy (.mk k' n' s' l' b') = pb ++ [.mk k' n' s' l' b'] ++ preTys l' := fun _ => by simp [preTy]
   have step : ∀ X Y, alikeL pa pb (.mk k n s l b :: X) (.mk k' n' s' l' b' :: Y) = (headA (.mk k n s l b) (.mk k' n' s' l' b') && (bif decide (k = 1) then innerA (.mk k n s l b) (.mk k' n' s' l' b') pa pb else true) && alikeL (pa ++ [.mk k n s l b]) (pb ++ [.mk k' n' s' l' b']) X Y) := fun _ _ => rfl
   have head : headA (.mk k n s l b) (.mk k' n' s' l' b') = (decide (k = k') && decide (s = s') && decide (l.length = l'.length) && (decide (k = 1) || decide (n = n'))) := rfl
   by_cases hk : k = 1
   ·obtain ⟨h0, rfl, rfl⟩ := Q04 g.1 hk
    by_cases hk' : k' = 1
    ·obtain ⟨h0', rfl, rfl⟩ := Q04 g'.1 hk'
     have e1 : chTy toCanon (.mk k n [] [] b) x = toCanon n x := by simp only [chTy]; rw [decide_eq_true hk]; rfl
     have e2 : chTy toCanon (.mk k' n' [] [] b') y = toCanon n' y := by simp only [chTy]; rw [decide_eq_true hk']; rfl
     rw [e1, e2, Q2Q, Q2Q, QfY]
     have hin := M.inner (.mk k n [] [] b) (.mk k' n' [] [] b')
     have hin' : innerA (.mk k n [] [] b) (.mk k' n' [] [] b') pa pb = decide (posC n x = posC n' y) := by
      rw [Bool.eq_iff_iff, decide_eq_true_iff]; exact hin
     refine ⟨fun h => ⟨rfl, ?_⟩, fun R S => ?_⟩
     ·simp only [preTy, preTys]
      exact M.var (s := .mk k n [] [] b) (t := .mk k' n' [] [] b') hk hk' (of_decide_eq_true h)
     ·rw [hpre, hpre', step, head, hin', decide_eq_true hk, decide_eq_true (hk.trans hk'.symm)]
      simp only [preTys, List.nil_append, preTy, cond_true, decide_true, Bool.true_and, Bool.true_or]
    ·have e1 : chTy toCanon (.mk k n [] [] b) x = toCanon n x := by simp only [chTy]; rw [decide_eq_true hk]; rfl
     have e2 : (chTy toCanon (.mk k' n' s' l' b') y).1 = .mk k' n' s' (chTys toCanon l' y).1 true := by simp only [chTy]; rw [decide_eq_false hk']; rfl
     have e3 : eqTy (chTy toCanon (.mk k n [] [] b) x).1 (chTy toCanon (.mk k' n' s' l' b') y).1 = false := by
      rw [e1, e2, Q2Q]; simp only [tvar, eqTy]; rw [decide_eq_false (fun h => hk' h.symm)]; simp
     rw [e3]
     refine ⟨fun h => (by cases h), fun R S => ?_⟩
     rw [hpre, hpre', step, head, decide_eq_false (fun h => hk' (h.symm.trans hk))]
     simp
   ·by_cases hk' : k' = 1
    ·have e1 : (chTy toCanon (.mk k n s l b) x).1 = .mk k n s (chTys toCanon l x).1 true := by simp only [chTy]; rw [decide_eq_false hk]; rfl
     have e2 : chTy toCanon (.mk k' n' s' l' b') y = toCanon n' y := by simp only [chTy]; rw [decide_eq_true hk']; rfl
     have e3 : eqTy (chTy toCanon (.mk k n s l b) x).1 (chTy toCanon (.mk k' n' s' l' b') y).1 = false := by
      rw [e1, e2, Q2Q]; simp only [tvar, eqTy]; rw [decide_eq_false hk]; simp
     rw [e3]
     refine ⟨fun h => (by cases h), fun R S => ?_⟩
     rw [hpre, hpre', step, head, decide_eq_false (fun h => hk (h.trans hk'))]
     simp
    ·have e1 : chTy toCanon (.mk k n s l b) x = (.mk k n s (chTys toCanon l x).1 true, (chTys toCanon l x).2) := by simp only [chTy]; rw [decide_eq_false hk]; rfl
     have e2 : chTy toCanon (.mk k' n' s' l' b') y = (.mk k' n' s' (chTys toCanon l' y).1 true, (chTys toCanon l' y).2) := by simp only [chTy]; rw [decide_eq_false hk']; rfl
     rw [e1, e2]
     simp only [eqTy]
     have M' := M.node (s := .mk k n s l b) (t := .mk k' n' s' l' b') hk hk'
     by_cases hl : l.length = l'.length
     ·obtain ⟨i1, i2⟩ := Q4o l l' _ _ x y M' g.2 g'.2 hl
      refine ⟨fun h => ?_, fun R S => ?_⟩
      ·simp only [Bool.and_eq_true] at h
       obtain ⟨j1, j2⟩ := i1 h.2
       refine ⟨by simp only [Ty.size, j1], ?_⟩
       rw [hcons (), hcons' ()]; exact j2
      ·rw [hpre, hpre', step, head, i2, hcons (), hcons' (), decide_eq_false hk, decide_eq_true hl]
       simp only [cond_false, Bool.and_true, Bool.false_or]
       cases decide (k = k') <;> cases decide (s = s') <;> cases decide (n = n') <;> simp
     ·have e3 : eqTys (chTys toCanon l x).1 (chTys toCanon l' y).1 = false := Q46 _ _ (by rw [Q43, Q43]; exact hl)
      rw [e3, Bool.and_false]
      refine ⟨fun h => (by cases h), fun R S => ?_⟩
      rw [hpre, hpre', step, head, decide_eq_false hl]
      simp
theorem Q4o : ∀ (l m : List Ty) (pa pb : List Ty) (x y : List Int), Met pa pb x y → allTys goodB l = true → allTys goodB m = true → l.length = m.length →
  (eqTys (chTys toCanon l x).1 (chTys toCanon m y).1 = true → Ty.sizes l = Ty.sizes m ∧ Met (pa ++ preTys l) (pb ++ preTys m) (chTys toCanon l x).2 (chTys toCanon m y).2) ∧
  ∀ R S, alikeL pa pb (preTys l ++ R) (preTys m ++ S) = (eqTys (chTys toCanon l x).1 (chTys toCanon m y).1 && alikeL (pa ++ preTys l) (pb ++ preTys m) R S)
 | [], [], pa, pb, x, y, M, _, _, _ => by
   simp only [preTys, chTys, eqTys, List.append_nil, List.nil_append, Bool.true_and]
   exact ⟨fun _ => ⟨trivial, M⟩, fun _ _ => trivial⟩
 | [], _ :: _, _, _, _, _, _, _, _, h => by simp at h
 | _ :: _, [], _, _, _, _, _, _, _, h => by simp at h
 | t :: l, u :: m, pa, pb, x, y, M, g, g', h => by
   simp only [allTys, Bool.and_eq_true] at g g'
   obtain ⟨i1, i2⟩ := QeF t u pa pb x y M g.1 g'.1
   simp only [chTys, eqTys, preTys, Ty.sizes]
   refine ⟨fun hh => ?_, fun R S => ?_⟩
   ·simp only [Bool.and_eq_true] at hh
    obtain ⟨j1, j2⟩ := i1 hh.1
    obtain ⟨k1, -⟩ := Q4o l m _ _ _ _ j2 g.2 g'.2 (by simpa using h)
    obtain ⟨q1, q2⟩ := k1 hh.2
    refine ⟨by rw [j1, q1], ?_⟩
    rw [← List.append_assoc, ← List.append_assoc]; exact q2
   ·rw [List.append_assoc, List.append_assoc, i2]
    cases he : eqTy (chTy toCanon t x).1 (chTy toCanon u y).1 with
    | false => simp
    | true =>
      obtain ⟨j1, j2⟩ := i1 he
      obtain ⟨-, k2⟩ := Q4o l m _ _ _ _ j2 g.2 g'.2 (by simpa using h)
      rw [k2, Bool.true_and, Bool.true_and, List.append_assoc, List.append_assoc]
end
theorem Met.nil : Met [] [] [] [] := ⟨rfl, rfl, by simp, by simp [placeI], by simp [placeI]⟩
end Go.Am
namespace Go.Am
open Go
def oldS (v keep : List Int) : List Int := v.filter (fun n => !hasI keep n) ++ v.filter (fun n => hasI keep n)
def ownN (v keep : List Int) : Nat := (v.filter fun n => !hasI keep n).length
def posV (old : List Int) (n : Int) : Int := match placeI n old 0 with | some i => i | none => 0
def numF (old : List Int) (n : Int) : Ty := tvar (posV old n)
def ofP (t : Ty) (keep : List Int) : Int × Ty :=
 bif rightTyB t then ((ownN (canonTy t).2 keep : Nat), rebT (numF (oldS (canonTy t).2 keep)) t) else (0, zeroTy)
mutual
def numT (old : List Int) : Ty → Ty
 | .mk k n s l _ => bif decide (k = 1) && decide (0 ≤ placeR n old) then tvar (placeR n old) else .mk k n s (numTs old l) true
def numTs (old : List Int) : List Ty → List Ty
 | [] => []
 | t :: l => numT old t :: numTs old l
end
theorem Q1d {k n : Int} {s : Str} {l : List Ty} {b : Bool} (h : goodB (.mk k n s l b) = true) (hk : decide (k = 1) = true) : 0 ≤ n ∧ s = [] ∧ l = [] := Q04 h (of_decide_eq_true hk)
theorem Q1U {p : Int → Bool} {k n : Int} {s : Str} {l : List Ty} {b : Bool} (h : varB p (.mk k n s l b) = true) (hk : decide (k = 1) = true) : p n = true := by
 have h : (!decide (k = 1) || p n) = true := h
 rw [hk] at h
 exact h
mutual
theorem Qex : ∀ (t : Ty) (old fin : List Int), allTy goodB t = true → Ext (chTy toCanon t old).2 fin → allTy (varB fun n => decide (n ∈ fin)) t = true
 | .mk k n s l b, old, fin, hg, h => by
   simp only [allTy, Bool.and_eq_true] at hg
   simp only [chTy] at h
   simp only [allTy, Bool.and_eq_true]
   cases hk : decide (k = 1) with
   | true =>
     obtain ⟨-, rfl, rfl⟩ := Q1d hg.1 hk
     rw [hk] at h
     obtain ⟨-, j, hj⟩ := toCanon_ty h
     have hm : n ∈ fin := List.mem_of_getElem? (Z9 hj).2.2
     refine ⟨?_, rfl⟩
     unfold varB
     simp only [Ty.n, hm, decide_true, Bool.or_true]
   | false =>
     rw [hk] at h
     refine ⟨?_, Qde l old fin hg.2 h⟩
     unfold varB
     rw [show (Ty.mk k n s l b).kind = k from rfl, hk]; rfl
theorem Qde : ∀ (l : List Ty) (old fin : List Int), allTys goodB l = true → Ext (chTys toCanon l old).2 fin → allTys (varB fun n => decide (n ∈ fin)) l = true
 | [], _, _, _, _ => rfl
 | t :: l, old, fin, hg, h => by
   simp only [allTys, Bool.and_eq_true] at hg
   simp only [chTys] at h
   simp only [allTys, Bool.and_eq_true]
   exact ⟨Qex t old fin hg.1 ((Q0p l _).trans h), Qde l _ fin hg.2 h⟩
end
theorem Qhh (t : Ty) (h : allTy goodB t = true) : allTy (varB fun n => decide (n ∈ (canonTy t).2)) t = true := Qex t [] _ h (.refl _)
theorem Q34 {n : Int} : ∀ {l : List Int} {i : Nat}, n ∈ l → ∃ j, placeI n l i = some j
 | m :: l, i, h => by
   by_cases hn : n = m
   ·exact ⟨i, by simp [placeI, hn]⟩
   ·rcases List.mem_cons.1 h with h | h
    ·exact absurd h hn
    ·obtain ⟨j, hj⟩ := Q34 (i := i + 1) h
     exact ⟨j, by simp [placeI, hn, hj]⟩
theorem Qfa {n : Int} {l : List Int} (h : placeI n l 0 = none) : n ∉ l := fun hm => by
 obtain ⟨j, hj⟩ := Q34 (i := 0) hm
 rw [h] at hj; cases hj
theorem Qbo (n : Int) {old : List Int} (h : old.Nodup) : (toCanon n old).2.Nodup := by
 rw [Q2P]
 split
 ·rename_i hp
  have := Qfa ((Q5h n old).1 hp)
  rw [List.nodup_append]
  refine ⟨h, by simp, fun a ha b hb => ?_⟩
  simp only [List.mem_singleton] at hb
  subst hb
  rintro rfl
  exact this ha
 ·exact h
mutual
theorem QbT : ∀ (t : Ty) (old : List Int), old.Nodup → (chTy toCanon t old).2.Nodup
 | .mk k n s l b, old, h => by
   simp only [chTy]
   cases decide (k = 1) with
   | true => exact Qbo n h
   | false => exact Qa9 l old h
theorem Qa9 : ∀ (l : List Ty) (old : List Int), old.Nodup → (chTys toCanon l old).2.Nodup
 | [], old, h => h
 | t :: l, old, h => by simp only [chTys]; exact Qa9 l _ (QbT t old h)
end
theorem Qdt (t : Ty) : (canonTy t).2.Nodup := QbT t [] List.nodup_nil
mutual
theorem Qlp (old : List Int) : ∀ t : Ty, allTy goodB t = true → allTy (varB fun n => decide (n ∈ old)) t = true → numT old t = rebT (numF old) t
 | .mk k n s l b, hg, h => by
   simp only [allTy, Bool.and_eq_true] at hg h
   simp only [numT, rebT]
   cases hk : decide (k = 1) with
   | true =>
     have h1 := of_decide_eq_true (Q1U h.1 hk)
     obtain ⟨j, hj⟩ := Q34 (i := 0) h1
     have : placeR n old = (j : Int) := by unfold placeR; rw [hj]
     rw [this]
     simp only [Bool.true_and, cond_true, numF, posV, hj]
     rw [decide_eq_true (by omega)]; rfl
   | false => simp only [Bool.false_and, cond_false, Qeo old l hg.2 h.2]
theorem Qeo (old : List Int) : ∀ l : List Ty, allTys goodB l = true → allTys (varB fun n => decide (n ∈ old)) l = true → numTs old l = rebTs (numF old) l
 | [], _, _ => rfl
 | t :: l, hg, h => by
   simp only [allTys, Bool.and_eq_true] at hg h
   simp only [numTs, rebTs, Qlp old t hg.1 h.1, Qeo old l hg.2 h.2]
end
mutual
theorem Q2R {p q : Ty → Bool} (h : ∀ t, p t = true → q t = true) : ∀ t : Ty, allTy p t = true → allTy q t = true
 | .mk k n s l b, g => by
   simp only [allTy, Bool.and_eq_true] at g ⊢
   exact ⟨h _ g.1, Q8o h l g.2⟩
theorem Q8o {p q : Ty → Bool} (h : ∀ t, p t = true → q t = true) : ∀ l : List Ty, allTys p l = true → allTys q l = true
 | [], _ => rfl
 | t :: l, g => by
   simp only [allTys, Bool.and_eq_true] at g ⊢
   exact ⟨Q2R h t g.1, Q8o h l g.2⟩
end
theorem Qij {p q : Int → Bool} (h : ∀ n, p n = true → q n = true) (t : Ty) (g : varB p t = true) : varB q t = true := by
 unfold varB at g ⊢
 simp only [Bool.or_eq_true] at g ⊢
 exact g.imp id (h _)
theorem Qw {t : Ty} (h : rightTyB t = true) : allTy goodB t = true := by
 unfold rightTyB at h
 simp only [Bool.and_eq_true] at h
 exact h.2
theorem ZY {t : Ty} (h : rightTyB t = true) : t.size ≤ 256 := by
 unfold rightTyB at h
 simp only [Bool.and_eq_true, decide_eq_true_eq] at h
 exact h.1
end Go.Am
namespace Go.Proofs.YtobelgghegmhhaaGreatDoor
open Go Go.Am
set_option linter.unusedVariables false
set_option maxRecDepth 4000
theorem Q4E (n : Int) (L : List Int) (x : Slot) (hx : x.list? = some (L.map ekI)) (hl : L.length < 2^40) (s : St) : ∀ (suf pre : List Int) (i : Nat), pre ++ suf = L → i = pre.length →
  ∃ r, QS x (.val (.int .i64 n)) (.val (.int .i64 L.length)) (.val (.int .i64 i)) s = some (.ret (.val (.int .i64 r)), s) ∧ decide (r ≥ 0) = hasI suf n
 | [], pre, i, h, hi => by
   subst hi
   refine ⟨-1, ?_, rfl⟩
   rw [Q0y]; simp only [go_sem, Int.reduceNeg, Qh (by simpa using h)]
 | m :: suf, pre, i, h, hi => by
   subst hi
   obtain ⟨f1, f2, f3⟩ := Qe (f := ekI) (sz := 1) hx h (by omega) rfl (by decide)
   have hh : hasI (m :: suf) n = (decide (m = n) || hasI suf n) := rfl
   simp only [ekI] at f2
   rw [Q0y, hh]
   by_cases hm : n = m
   ·refine ⟨pre.length, by simp only [go_sem, Int.reduceNeg, Nat.reduceAdd, Nat.reduceLeDiff, f1, f2, f3, decide_eq_true hm], ?_⟩
    rw [decide_eq_true hm.symm]; simp
   ·obtain ⟨r, e, hr⟩ := Q4E n L x hx hl s suf (pre ++ [m]) (pre.length + 1) (by simpa using h) (by simp)
    refine ⟨r, by simp only [go_sem, Int.reduceNeg, Nat.reduceAdd, Nat.reduceLeDiff, f1, f2, f3, decide_eq_false hm, e], ?_⟩
    rw [hr, decide_eq_false (fun h => hm h.symm)]; rfl
theorem Q6V (n : Int) (L : List Int) (v : AV) (hv : (Slot.val v).list? = some (L.map ekI)) (hl : L.length < 2^40) (s : St) : cw (.f Zz) [v, .int .i64 n] s = some (.ret (.val (.bool (hasI L n))), s) := by
 obtain ⟨r, e, hr⟩ := Q4E n L (.val v) hv hl s L [] 0 rfl rfl
 have e1 : cw (.f Zh) [v, .int .i64 n] s = some (.ret (.val (.int .i64 r)), s) := by
  rw [Q3R]
  rw [show ((0 : Nat) : Int) = 0 from rfl] at e
  simp only [go_sem, hv, List.length_map, e]
 rw [Q2Z, ← hr]
 simp only [go_sem, e1]
theorem Qe0 {K V : Type} [DecidableEq K] {ek : K → AV} {ev : V → AV} {g : K → Option V} {es : List (AV × AV × Nat)} {c : Nat} {D : List (K × V × Nat)} (M : MapIs ek ev g es c D) (hk : KeyEnc ek) {kt et : TI} (k : K) (hkt : isKey kt (ek k) = true) {s : St} {loc : Nat} (hl : s.locs[loc]? = some (.map es c)) {x : Slot} {v : V} (hx : x.av = some (ev v)) (hs : (ev v).cells.length = et.size) (hg : g k = none) :
  ∃ es' c' D', updateS kt et s (.val (.mp loc)) (.val (ek k)) x = some (.no, { s with locs := s.locs.set loc (.map es' c') }) ∧ MapIs ek ev (upd g k v) es' c' D' ∧ es'.length = es.length + 1 := by
 rcases M.update hk k v with ⟨j, v0, b, h1, h2, h3, D', h4⟩ | ⟨h1, h2, D', h4⟩
 ·rw [hg] at h2; cases h2
 ·exact ⟨_, _, D', by simp only [updateS, Q1b, hx, hkt, hs, and_self, if_true, hl, h1], h4, by simp⟩
structure OfMap (s : St) (M P : Nat) (old : List Int) : Prop where
 ptr : s.locs[P]? = some (.var [.val (.mp M)])
 map : ∃ es c D, s.locs[M]? = some (.map es c) ∧ MapIs ekI ekI (oldV old) es c D ∧ es.length = old.length
theorem OfMap.grew {s s' : St} {M P : Nat} {old : List Int} (h : OfMap s M P old) (g : ∀ (i : Nat) (x : Am.Obj), s.locs[i]? = some x → s'.locs[i]? = some x) : OfMap s' M P old := by
 obtain ⟨h1, es, c, D, h2, h3⟩ := h
 exact ⟨g _ _ h1, es, c, D, g _ _ h2, h3⟩
theorem Qgp {old : List Int} {n : Int} (h : placeI n old 0 = none) : oldV (old ++ [n]) = upd (oldV old) n (old.length : Int) := by
 funext m
 unfold oldV upd
 rw [Q5g]
 by_cases hm : m = n
 ·subst hm; simp [h]
 ·simp only [hm, if_false]
  cases placeI m old 0 <;> rfl
theorem Qgo {old : List Int} {n : Int} (h : n ∉ old) : oldV old n = none := by
 unfold oldV
 rw [Q1C h]
theorem Q81 (M P : Nat) (old : List Int) (n : Int) (s : St) (h : OfMap s M P old) : cw (.f Q1M) [.int .i64 n, .vp P 0] s = some (.ret (.val (numF old n).enc), s) := by
 obtain ⟨h1, es, c, D, h2, h3, h4⟩ := h
 have hlk : lookupS (C.ti Q1) (C.ti Q1) s (.val (.mp M)) (.val (ekI n)) false = some (.val (ekI (posV old n))) := by
  rw [Q4s h3 keyInt (kt := C.ti Q1) (et := C.ti Q1) n (Q1X Q1s n) h2 (z := .int .i64 0) (Qb3 Q8k Q9X Q8l) false]
  unfold oldV posV
  cases placeI n old 0 <;> rfl
 have e1 := Q0I (posV old n) s
 rw [Q9N]
 simp only [ekI, Ty.enc, tvar] at hlk e1
 simp only [go_sem, Nat.reduceAdd, Nat.reduceLeDiff, Za h1, hlk, e1, numF, tvar, Ty.enc]
def ofNew (keep : List Int) (kept : Bool) (l : List Int) : List Int := l.filter fun n => hasI keep n == kept
theorem Q8R (keep : List Int) (kept : Bool) (n : Int) (l : List Int) : ofNew keep kept (n :: l) = bif hasI keep n == kept then n :: ofNew keep kept l else ofNew keep kept l := by
 unfold ofNew
 rw [List.filter_cons]
 cases hasI keep n == kept <;> rfl
theorem Q6f {keep : List Int} {kept : Bool} {l : List Int} {n : Int} (h : n ∈ ofNew keep kept l) : n ∈ l ∧ (hasI keep n == kept) = true := List.mem_filter.1 h
theorem Q0h (keep V : List Int) (v : AV) (hv : (Slot.val v).list? = some (keep.map ekI)) (hk : keep.length < 2^40) (x2 x4 : List Slot) (x6 x16 x17 x23 : Slot) (hx : x23.list? = some (V.map ekI)) (hV : V.length < 2^40) (kept : Bool) (k : Nat) (hk2 : k < 2) (M P : Nat) (hMP : M < P) (s0 : St) (hb : s0.locs.length ≤ M) :
  ∀ (suf pre old : List Int) (s : St) (i : Nat), pre ++ suf = V → i = pre.length → OfMap s M P old → Grew s0 s → suf.Nodup → (∀ n ∈ ofNew keep kept suf, n ∉ old) →
  ∃ s', Q0w (.val v) x2 x4 (.val (.vp P 0)) x6 (.val (.bool kept)) x16 x17 (.val (.int .i64 k)) x23 (.val (.int .i64 V.length)) (.val (.int .i64 i)) s =
    Zb (.val v) x2 x4 (.val (.vp P 0)) (bif kept then x6 else .val (.int .i64 (old ++ ofNew keep kept suf).length)) x16 x17 (.val (.int .i64 ((k + 1 : Nat) : Int))) s' ∧ OfMap s' M P (old ++ ofNew keep kept suf) ∧ Grew s0 s'
 | [], pre, old, s, i, h, hi, hM, g, _, _ => by
   subst hi
   refine ⟨s, ?_, by simpa [ofNew] using hM, g⟩
   obtain ⟨h1, es, c, D, h2, h3, h4⟩ := hM
   have hlen : lenM s (.val (.mp M)) = some (.val (.int .i64 es.length)) := by simp only [lenM, h2]
   have hnx : IntKind.i64.wrap ((k : Int) + 1) = ((k + 1 : Nat) : Int) := by rw [wrap64 (by omega) (by omega)]; rfl
   rw [Q4e]
   cases kept with
   | true => simp only [go_sem, Qh (by simpa using h), hnx]
   | false => simp only [go_sem, Nat.reduceAdd, Nat.reduceLeDiff, Qh (by simpa using h), hnx, Za h1, hlen, h4, ofNew, List.filter_nil, List.append_nil]
 | n :: suf, pre, old, s, i, h, hi, hM, g, hn, hd => by
   subst hi
   obtain ⟨f1, f2, f3⟩ := Qe (f := ekI) (sz := 1) hx h (by omega) rfl (by decide)
   simp only [ekI] at f2
   have e1 := Q6V n keep v hv hk s
   rw [List.nodup_cons] at hn
   rw [Q4e]
   cases hc : (hasI keep n == kept) with
   | false =>
     have hN : ofNew keep kept (n :: suf) = ofNew keep kept suf := by rw [Q8R, hc]; rfl
     rw [hN] at hd ⊢
     obtain ⟨s', e2, h2, h3⟩ := Q0h keep V v hv hk x2 x4 x6 x16 x17 x23 hx hV kept k hk2 M P hMP s0 hb suf (pre ++ [n]) old s (pre.length + 1) (by simpa using h) (by simp) hM g hn.2 hd
     refine ⟨s', ?_, h2, h3⟩
     simp only [go_sem, Nat.reduceAdd, Nat.reduceLeDiff, f1, f2, f3, e1, hc, e2]
   | true =>
     have hN : ofNew keep kept (n :: suf) = n :: ofNew keep kept suf := by rw [Q8R, hc]; rfl
     rw [hN] at hd ⊢
     have hno : n ∉ old := hd n List.mem_cons_self
     obtain ⟨h1, es, c, D, h2, h3, h4⟩ := hM
     obtain ⟨es', c', D', eu, hM', hl'⟩ := Qe0 h3 keyInt (kt := C.ti Q1) (et := C.ti Q1) n (Q1X Q1s n) h2 (x := .val (.int .i64 old.length)) (v := (old.length : Int)) rfl (by rw [Q1t]; rfl) (Qgo hno)
     have hlen : lenM s (.val (.mp M)) = some (.val (.int .i64 old.length)) := by simp only [lenM, h2, h4]
     have hM2 : OfMap { s with locs := s.locs.set M (.map es' c') } M P (old ++ [n]) := by
      refine ⟨?_, es', c', D', Q4Q h2, by rw [Qgp (Q1C hno)]; exact hM', by rw [hl', h4]; simp⟩
      show (s.locs.set M _)[P]? = _
      rw [List.getElem?_set_ne (by omega)]; exact h1
     obtain ⟨s', e2, h5, h6⟩ := Q0h keep V v hv hk x2 x4 x6 x16 x17 x23 hx hV kept k hk2 M P hMP s0 hb suf (pre ++ [n]) (old ++ [n]) { s with locs := s.locs.set M (.map es' c') } (pre.length + 1) (by simpa using h) (by simp) hM2 (Q68 g hb _) hn.2 (fun m hm => by
      have h7 := hd m (List.mem_cons_of_mem _ hm)
      rw [List.mem_append, List.mem_singleton]
      rintro (h8 | rfl)
      ·exact h7 h8
      ·exact hn.1 (Q6f hm).1)
     rw [List.append_assoc] at e2 h5
     refine ⟨s', ?_, h5, h6⟩
     simp only [ekI] at eu
     simp only [go_sem, Nat.reduceAdd, Nat.reduceLeDiff, f1, f2, f3, e1, hc, Za h1, hlen, eu, e2]
theorem QhN (V keep : List Int) : oldS V keep = ofNew keep false V ++ ofNew keep true V := by
 unfold oldS ofNew
 congr 1
 all_goals exact List.filter_congr fun n _ => by cases hasI keep n <;> rfl
theorem QhQ (V keep : List Int) : ownN V keep = (ofNew keep false V).length := by
 unfold ownN ofNew
 refine congrArg List.length ?_
 exact List.filter_congr fun n _ => by cases hasI keep n <;> rfl
theorem Q4O (t : Ty) (keep : List Int) (v : AV) (hv : (Slot.val v).list? = some (keep.map ekI)) (hk : keep.length < 2^40) (s : St) (h : t.size < 2^28) (hn : NamesTy t) :
  Ret (cw (.f Q0R) [t.enc, v] s) s (.agg (.int .i64 (ofP t keep).1 :: (ofP t keep).2.cells)) := by
 obtain ⟨s1, e1, g1⟩ := Q38 t s (by omega) hn
 have c := Ty.cells_eq t
 rw [QcS]
 unfold ofP
 cases hr : rightTyB t with
 | false =>
   rw [hr] at e1
   simp only [go_sem, Nat.reduceAdd, Nat.reduceLeDiff, c, Ty.enc] at e1 ⊢
   simp only [go_sem, e1]
   exact ⟨s1, rfl, g1⟩
 | true =>
   rw [hr] at e1
   let s2 : St := (s1.addLoc (.map [] 0)).addLoc (.var [.val (.mp s1.locs.length)])
   have hM0 : OfMap s2 s1.locs.length (s1.locs.length + 1) [] := ⟨by simp [s2, St.addLoc], [], 0, [], by simp [s2, St.addLoc], .nil, rfl⟩
   have g2 : Grew s1 s2 := ((Grew.refl s1).addLoc _).addLoc _
   have hV := Qdt t
   have hVl : (canonTy t).2.length < 2^40 := by
    have := Q76 t []
    simp only [List.length_nil] at this
    show (chTy toCanon t []).2.length < _
    omega
   have i0 : ixS 1 (.full [.bool false, .bool true]) (.val (.int .i64 0)) = some (.val (.cp [.bool false])) := rfl
   have i1 : ixS 1 (.full [.bool false, .bool true]) (.val (.int .i64 1)) = some (.val (.cp [.bool true])) := rfl
   obtain ⟨s3, e3, g3⟩ := Q6G t s2 h
   obtain ⟨s4, e4, h4, g4⟩ := Q0h keep (canonTy t).2 v hv hk (t.cells.map .val) ((C.ti Q6).zero.map .val) (.val (.int .i64 0)) (.full [.bool false, .bool true]) (.val (.int .i64 2)) (.val (encS true ((canonTy t).2.map ekI))) (Qb _ _) hVl false 0 (by decide) s1.locs.length (s1.locs.length + 1) (by omega) s1 (Nat.le_refl _) (canonTy t).2 [] [] s3 0 rfl rfl (hM0.grew fun i x => g3.loc) (g2.trans g3) hV (by simp)
   obtain ⟨s5, e5, g5⟩ := Q6G t s4 h
   obtain ⟨s6, e6, h6, g6⟩ := Q0h keep (canonTy t).2 v hv hk (t.cells.map .val) ((C.ti Q6).zero.map .val) (.val (.int .i64 ([] ++ ofNew keep false (canonTy t).2).length)) (.full [.bool false, .bool true]) (.val (.int .i64 2)) (.val (encS true ((canonTy t).2.map ekI))) (Qb _ _) hVl true 1 (by decide) s1.locs.length (s1.locs.length + 1) (by omega) s1 (Nat.le_refl _) (canonTy t).2 [] ([] ++ ofNew keep false (canonTy t).2) s5 0 rfl rfl (h4.grew fun i x => g5.loc) (g4.trans g5) hV (fun n hn hm => by
    have h1 := (Q6f hn).2
    have h2 := (Q6f (by simpa using hm)).2
    cases hh : hasI keep n <;> rw [hh] at h1 h2 <;> simp at h1 h2)
   rw [List.nil_append, ← QhN] at h6
   obtain ⟨s7, e7, g7⟩ := Q2v (numF (oldS (canonTy t).2 keep)) (fun _ => true) Q1M [.vp (s1.locs.length + 1) 0] (by kernel_rfl) (fun s => OfMap s s1.locs.length (s1.locs.length + 1) (oldS (canonTy t).2 keep)) (fun s s' hq g => hq.grew g)
    (fun n s hq _ => ⟨s, Q81 _ _ _ n s hq, .refl s⟩) t (Z4 t h) (Q2R (p := goodB) (fun u _ => by unfold varB; simp) t (Qw hr)) s6 h6
   have cr := Ty.cells_eq (rebT (numF (oldS (canonTy t).2 keep)) t)
   have L0 : Zb (.val v) (t.cells.map .val) ((C.ti Q6).zero.map .val) (.val (.vp (s1.locs.length + 1) 0)) (.val (.int .i64 0)) (.full [.bool false, .bool true]) (.val (.int .i64 2)) (.val (.int .i64 0)) s2 = some (.ret (.val (.agg (.int .i64 (ownN (canonTy t).2 keep : Nat) :: (rebT (numF (oldS (canonTy t).2 keep)) t).cells))), s7) := by
    rw [show ((0 : Nat) : Int) = 0 from rfl, show ((0 + 1 : Nat) : Int) = 1 from rfl] at e4
    rw [show ((0 : Nat) : Int) = 0 from rfl, show ((1 : Nat) : Int) = 1 from rfl, show ((1 + 1 : Nat) : Int) = 2 from rfl] at e6
    have t1 : Zb (.val v) (t.cells.map .val) ((C.ti Q6).zero.map .val) (.val (.vp (s1.locs.length + 1) 0)) (.val (.int .i64 ([] ++ ofNew keep false (canonTy t).2).length)) (.full [.bool false, .bool true]) (.val (.int .i64 2)) (.val (.int .i64 2)) s6 = some (.ret (.val (.agg (.int .i64 (ownN (canonTy t).2 keep : Nat) :: (rebT (numF (oldS (canonTy t).2 keep)) t).cells))), s7) := by
     rw [Q2q, QhQ]
     simp only [Ty.enc, c, cr] at e7 ⊢
     simp only [go_sem, Int.reduceLT, Nat.reduceAdd, Nat.reduceLeDiff, e7, List.nil_append]
    have t2 : Zb (.val v) (t.cells.map .val) ((C.ti Q6).zero.map .val) (.val (.vp (s1.locs.length + 1) 0)) (.val (.int .i64 ([] ++ ofNew keep false (canonTy t).2).length)) (.full [.bool false, .bool true]) (.val (.int .i64 2)) (.val (.int .i64 1)) s4 = some (.ret (.val (.agg (.int .i64 (ownN (canonTy t).2 keep : Nat) :: (rebT (numF (oldS (canonTy t).2 keep)) t).cells))), s7) := by
     rw [← t1, Q2q]
     simp only [cond_true] at e6
     rw [← e6]
     simp only [Ty.enc, c] at e5 ⊢
     simp only [go_sem, Int.reduceLT, Nat.reduceAdd, Nat.reduceLeDiff, i1, e5, Qb, List.length_map]
    rw [← t2, Q2q]
    simp only [cond_false] at e4
    rw [← e4]
    simp only [Ty.enc, c] at e3 ⊢
    simp only [go_sem, Int.reduceLT, Nat.reduceAdd, Nat.reduceLeDiff, i0, e3, Qb, List.length_map]
   simp only [go_sem, Nat.reduceAdd, Nat.reduceLeDiff, c, Ty.enc] at e1 L0 ⊢
   simp only [go_sem, e1]
   refine ⟨s7, ?_, ((g1.trans g6)).trans g7⟩
   exact L0
end Go.Proofs.YtobelgghegmhhaaGreatDoor
namespace Go.Am
open Go
mutual
theorem QbZ : ∀ t u : Ty, eqTy t u = true ↔ ownTy t = ownTy u
 | .mk k n s l b, .mk k' n' s' l' b' => by
   have := Qeb l l'
   simp only [eqTy, ownTy, Bool.and_eq_true, decide_eq_true_eq, Ty.mk.injEq, this, and_true]
   constructor
   ·rintro ⟨⟨⟨h1, h2⟩, h3⟩, h4⟩; exact ⟨h1, h2, h3, h4⟩
   ·rintro ⟨h1, h2, h3, h4⟩; exact ⟨⟨⟨h1, h2⟩, h3⟩, h4⟩
theorem Qeb : ∀ l m : List Ty, eqTys l m = true ↔ ownTys l = ownTys m
 | [], [] => by simp [eqTys, ownTys]
 | [], _ :: _ => by simp [eqTys, ownTys]
 | _ :: _, [] => by simp [eqTys, ownTys]
 | t :: l, u :: m => by simp only [eqTys, ownTys, Bool.and_eq_true, QbZ t u, Qeb l m, List.cons.injEq]
end
mutual
theorem Qjk (f : Int → Ty) : ∀ t : Ty, rebT f (ownTy t) = rebT f t
 | .mk k n s l b => by simp only [ownTy, rebT, QcP f l]
theorem QcP (f : Int → Ty) : ∀ l : List Ty, rebTs f (ownTys l) = rebTs f l
 | [] => rfl
 | t :: l => by simp only [ownTys, rebTs, Qjk f t, QcP f l]
end
mutual
theorem Q9G (f g : Int → Ty) : ∀ t : Ty, rebT f (rebT g t) = rebT (fun n => rebT f (g n)) t
 | .mk k n s l b => by
   simp only [rebT]
   cases hk : decide (k = 1) with
   | true => rfl
   | false => simp only [cond_false, rebT, hk, QaD f g l]
theorem QaD (f g : Int → Ty) : ∀ l : List Ty, rebTs f (rebTs g l) = rebTs (fun n => rebT f (g n)) l
 | [] => rfl
 | t :: l => by simp only [rebTs, Q9G f g t, QaD f g l]
end
theorem Q4b (f : Int → Ty) : ∀ l : List Ty, rebTs f l = l.map (rebT f)
 | [] => rfl
 | t :: l => by simp only [rebTs, List.map_cons, Q4b f l]
mutual
theorem Q2V {f g : Int → Ty} {p : Int → Bool} (h : ∀ n, p n = true → f n = g n) : ∀ t : Ty, allTy (varB p) t = true → rebT f t = rebT g t
 | .mk k n s l b, hp => by
   simp only [allTy, Bool.and_eq_true] at hp
   simp only [rebT]
   cases hk : decide (k = 1) with
   | true => exact h n (Q1U hp.1 hk)
   | false => simp only [cond_false, Q8X h l hp.2]
theorem Q8X {f g : Int → Ty} {p : Int → Bool} (h : ∀ n, p n = true → f n = g n) : ∀ l : List Ty, allTys (varB p) l = true → rebTs f l = rebTs g l
 | [], _ => rfl
 | t :: l, hp => by
   simp only [allTys, Bool.and_eq_true] at hp
   simp only [rebTs, Q2V h t hp.1, Q8X h l hp.2]
end
mutual
theorem QcO {f : Int → Ty} (h : ∀ n, 0 ≤ n → f n = tvar n) : ∀ t : Ty, allTy goodB t = true → ownTy (rebT f t) = ownTy t
 | .mk k n s l b, hg => by
   simp only [allTy, Bool.and_eq_true] at hg
   simp only [rebT]
   cases hk : decide (k = 1) with
   | true =>
     obtain ⟨h0, rfl, rfl⟩ := Q1d hg.1 hk
     obtain rfl := of_decide_eq_true hk
     rw [cond_true, h n h0]; rfl
   | false => simp only [cond_false, ownTy, QaE h l hg.2]
theorem QaE {f : Int → Ty} (h : ∀ n, 0 ≤ n → f n = tvar n) : ∀ l : List Ty, allTys goodB l = true → ownTys (rebTs f l) = ownTys l
 | [], _ => rfl
 | t :: l, hg => by
   simp only [allTys, Bool.and_eq_true] at hg
   simp only [rebTs, ownTys, QcO h t hg.1, QaE h l hg.2]
end
def moreF (av bv : Int) : Nat → List (Ty × Ty) → (Int → Option Ty) → Bool
 | 0, _, _ => true
 | _ + 1, [], _ => true
 | k + 1, (x, y) :: st, g =>
   bif decide (x.kind = 1) then
    (bif decide (x.n < av) then (match g x.n with
      | some was => bif eqTy was y then moreF av bv k st g else false
      | none => moreF av bv k st (upd g x.n y))
    else bif !decide (y.kind = 1) || (decide (y.n < bv) || !decide (y.n - bv = x.n - av)) then false else moreF av bv k st g)
   else bif !decide (y.kind = 2) || (!decide (x.name = y.name) || !decide (x.args.length = y.args.length)) then false else moreF av bv k ((x.args.zip y.args).reverse ++ st) g
def moreP (av : Int) (t : Ty) (bv : Int) (u : Ty) : Bool := bif !rightSB av t || !rightSB bv u then false else moreF av bv t.size [(t, u)] (fun _ => none)
theorem Qcv (av bv : Int) (k : Nat) (kx nx : Int) (sx : Str) (lx : List Ty) (bx : Bool) (ky ny : Int) (sy : Str) (ly : List Ty) (by' : Bool) (st : List (Ty × Ty)) (g : Int → Option Ty) : moreF av bv (k + 1) ((.mk kx nx sx lx bx, .mk ky ny sy ly by') :: st) g =
  bif decide (kx = 1) then
   (bif decide (nx < av) then (match g nx with
     | some was => bif eqTy was (.mk ky ny sy ly by') then moreF av bv k st g else false
     | none => moreF av bv k st (upd g nx (.mk ky ny sy ly by')))
   else bif !decide (ky = 1) || (decide (ny < bv) || !decide (ny - bv = nx - av)) then false else moreF av bv k st g)
  else bif !decide (ky = 2) || (!decide (sx = sy) || !decide (lx.length = ly.length)) then false else moreF av bv k ((lx.zip ly).reverse ++ st) g := rfl
def sub (av bv : Int) (σ : Int → Ty) (n : Int) : Ty := bif decide (n < av) then σ n else tvar (n - av + bv)
def sumX (l : List (Ty × Ty)) : Nat := (l.map fun p => p.1.size).sum
theorem Q1j (p : Ty × Ty) (l : List (Ty × Ty)) : sumX (p :: l) = p.1.size + sumX l := by simp [sumX]
theorem Q87 (a b : List (Ty × Ty)) : sumX (a ++ b) = sumX a + sumX b := by simp [sumX]
theorem Q88 (a : List (Ty × Ty)) : sumX a.reverse = sumX a := by simp [sumX]
theorem Q5n : ∀ (a b : List Ty), sumX (a.zip b) ≤ Ty.sizes a
 | [], _ => by simp [sumX]
 | _ :: _, [] => by simp [sumX]
 | t :: a, u :: b => by
   have := Q5n a b
   rw [List.zip_cons_cons, Q1j, Ty.sizes]
   show t.size + _ ≤ _
   omega
def Meets (av bv : Int) (σ : Int → Ty) (p : Ty × Ty) : Prop := ownTy (rebT (sub av bv σ) p.1) = ownTy p.2
theorem Q6e (av bv : Int) (σ : Int → Ty) : ∀ (a b : List Ty), a.length = b.length → ((∀ p ∈ a.zip b, Meets av bv σ p) ↔ ownTys (rebTs (sub av bv σ) a) = ownTys b)
 | [], [], _ => by simp [rebTs, ownTys]
 | t :: a, u :: b, h => by
   have := Q6e av bv σ a b (by simpa using h)
   simp only [List.zip_cons_cons, List.forall_mem_cons, rebTs, ownTys, List.cons.injEq, this]
   rfl
 | [], _ :: _, h => by simp at h
 | _ :: _, [], h => by simp at h
theorem Q7O {k n : Int} {s : Str} {l : List Ty} {b : Bool} (h : goodB (.mk k n s l b) = true) (hk : decide (k = 1) = false) : k = 2 ∧ n = 0 := by
 have h : goodC k n s l.length (lowB s) = true := h
 unfold goodC at h
 rw [hk, cond_false] at h
 cases h2 : decide (k = 2) with
 | false => rw [h2] at h; cases h
 | true =>
   rw [h2] at h
   simp only [cond_true, Bool.and_eq_true, decide_eq_true_eq] at h
   exact ⟨of_decide_eq_true h2, h.1.1.1⟩
def GoodP (p : Ty × Ty) : Prop := allTy goodB p.1 = true ∧ allTy goodB p.2 = true
theorem Q1a {p : Ty → Bool} : ∀ {l : List Ty}, allTys p l = true → ∀ t ∈ l, allTy p t = true
 | x :: l, h, t, ht => by
   simp only [allTys, Bool.and_eq_true] at h
   rcases List.mem_cons.1 ht with rfl | ht
   ·exact h.1
   ·exact Q1a h.2 t ht
theorem Qcd {a b : List Ty} (ha : allTys goodB a = true) (hb : allTys goodB b = true) : ∀ p ∈ a.zip b, GoodP p := by
 intro p hp
 have := List.of_mem_zip (a := p.1) (b := p.2) hp
 exact ⟨Q1a ha _ this.1, Q1a hb _ this.2⟩
theorem Q2n (av bv : Int) : ∀ (k : Nat) (st : List (Ty × Ty)) (g : Int → Option Ty), sumX st ≤ k → (∀ p ∈ st, GoodP p) → moreF av bv k st g = true →
  ∃ σ : Int → Ty, (∀ n u, g n = some u → σ n = u) ∧ ∀ p ∈ st, Meets av bv σ p
 | k, [], g, _, _, _ => ⟨fun n => (g n).getD zeroTy, fun n u h => by simp [h], by simp⟩
 | 0, (x, y) :: st, g, hs, _, _ => by
   have := Ty.size_pos x
   rw [Q1j] at hs
   simp only at hs
   omega
 | k + 1, (.mk kx nx sx lx bx, .mk ky ny sy ly by') :: st, g, hs, hg, hm => by
   rw [Q1j] at hs
   simp only [Ty.size] at hs
   have hg0 := hg _ List.mem_cons_self
   have hgs := fun p hp => hg p (List.mem_cons_of_mem _ hp)
   obtain ⟨hgx, hgy⟩ := hg0
   simp only [allTy, Bool.and_eq_true] at hgx hgy
   rw [Qcv] at hm
   cases hk : decide (kx = 1) with
   | true =>
     obtain ⟨h0, rfl, rfl⟩ := Q1d hgx.1 hk
     obtain rfl := of_decide_eq_true hk
     rw [hk, cond_true] at hm
     cases hn : decide (nx < av) with
     | true =>
       rw [hn, cond_true] at hm
       cases hx : g nx with
       | some was =>
         rw [hx] at hm
         simp only at hm
         cases he : eqTy was (.mk ky ny sy ly by') with
         | false => rw [he] at hm; cases hm
         | true =>
           rw [he, cond_true] at hm
           obtain ⟨σ, h1, h2⟩ := Q2n av bv k st g (by omega) hgs hm
           refine ⟨σ, h1, List.forall_mem_cons.2 ⟨?_, h2⟩⟩
           unfold Meets
           simp only [rebT, decide_true, cond_true, sub, hn, h1 nx was hx]
           exact (QbZ _ _).1 he
       | none =>
         rw [hx] at hm
         simp only at hm
         obtain ⟨σ, h1, h2⟩ := Q2n av bv k st (upd g nx (.mk ky ny sy ly by')) (by omega) hgs hm
         refine ⟨σ, fun n u h => h1 n u ?_, List.forall_mem_cons.2 ⟨?_, h2⟩⟩
         ·rw [Qm7 _ _ (fun e => by rw [e, hx] at h; cases h)]; exact h
         ·unfold Meets
          simp only [rebT, decide_true, cond_true, sub, hn]
          rw [h1 nx _ (Qig _ _ _)]
     | false =>
       rw [hn, cond_false] at hm
       cases hc : (!decide (ky = 1) || (decide (ny < bv) || !decide (ny - bv = nx - av))) with
       | true => rw [hc] at hm; cases hm
       | false =>
         rw [hc, cond_false] at hm
         simp only [Bool.or_eq_false_iff, Bool.not_eq_false', decide_eq_true_eq] at hc
         obtain ⟨σ, h1, h2⟩ := Q2n av bv k st g (by omega) hgs hm
         refine ⟨σ, h1, List.forall_mem_cons.2 ⟨?_, h2⟩⟩
         obtain ⟨h0', rfl, rfl⟩ := Q04 hgy.1 hc.1
         unfold Meets
         simp only [rebT, decide_true, cond_true, sub, hn, cond_false]
         rw [show nx - av + bv = ny by omega, hc.1]; rfl
   | false =>
     rw [hk, cond_false] at hm
     cases hc : (!decide (ky = 2) || (!decide (sx = sy) || !decide (lx.length = ly.length))) with
     | true => rw [hc] at hm; cases hm
     | false =>
       rw [hc, cond_false] at hm
       simp only [Bool.or_eq_false_iff, Bool.not_eq_false', decide_eq_true_eq] at hc
       obtain ⟨rfl, rfl, hl⟩ := hc
       obtain ⟨rfl, rfl⟩ := Q7O hgx.1 hk
       obtain ⟨-, rfl⟩ := Q7O hgy.1 (by decide)
       have hz := Q5n lx ly
       obtain ⟨σ, h1, h2⟩ := Q2n av bv k ((lx.zip ly).reverse ++ st) g (by rw [Q87, Q88]; omega) (fun p hp => by
        rcases List.mem_append.1 hp with hp | hp
        ·exact Qcd hgx.2 hgy.2 p (List.mem_reverse.1 hp)
        ·exact hgs p hp) hm
       refine ⟨σ, h1, List.forall_mem_cons.2 ⟨?_, fun p hp => h2 p (List.mem_append_right _ hp)⟩⟩
       have h3 := (Q6e av bv σ lx ly hl).1 fun p hp => h2 p (List.mem_append_left _ (List.mem_reverse.2 hp))
       unfold Meets
       simp only [rebT, hk, cond_false, ownTy, h3]
theorem Q0O (av bv : Int) (σ : Int → Ty) : ∀ (k : Nat) (st : List (Ty × Ty)) (g : Int → Option Ty), sumX st ≤ k → (∀ p ∈ st, GoodP p) → (∀ n u, g n = some u → ownTy (σ n) = ownTy u) → (∀ p ∈ st, Meets av bv σ p) → moreF av bv k st g = true
 | 0, _, g, _, _, _, _ => rfl
 | k + 1, [], g, _, _, _, _ => rfl
 | k + 1, (.mk kx nx sx lx bx, .mk ky ny sy ly by') :: st, g, hs, hg, hσ, hM => by
   rw [Q1j] at hs
   simp only [Ty.size] at hs
   have hg0 := hg _ List.mem_cons_self
   have hgs := fun p hp => hg p (List.mem_cons_of_mem _ hp)
   have hM0 := hM _ List.mem_cons_self
   have hMs := fun p hp => hM p (List.mem_cons_of_mem _ hp)
   obtain ⟨hgx, hgy⟩ := hg0
   simp only [allTy, Bool.and_eq_true] at hgx hgy
   unfold Meets at hM0
   rw [Qcv]
   cases hk : decide (kx = 1) with
   | true =>
     simp only [rebT, hk, cond_true, sub] at hM0
     rw [cond_true]
     cases hn : decide (nx < av) with
     | true =>
       rw [hn, cond_true] at hM0
       rw [cond_true]
       cases hx : g nx with
       | some was =>
         have he : eqTy was (.mk ky ny sy ly by') = true := (QbZ _ _).2 (by rw [← hσ nx was hx]; exact hM0)
         simp only [he, cond_true]
         exact Q0O av bv σ k st g (by omega) hgs hσ hMs
       | none =>
         simp only []
         refine Q0O av bv σ k st _ (by omega) hgs (fun n u h => ?_) hMs
         unfold upd at h
         split at h
         ·rename_i e; cases h; rw [e]; exact hM0
         ·exact hσ n u h
     | false =>
       rw [hn, cond_false] at hM0
       rw [cond_false]
       simp only [tvar, ownTy, ownTys, Ty.mk.injEq] at hM0
       obtain ⟨h1, h2, -, -, -⟩ := hM0
       have hn' := of_decide_eq_false hn
       rw [decide_eq_true h1.symm, decide_eq_false (show ¬ ny < bv by omega), decide_eq_true (show ny - bv = nx - av by omega)]
       exact Q0O av bv σ k st g (by omega) hgs hσ hMs
   | false =>
     simp only [rebT, hk, cond_false, ownTy, Ty.mk.injEq] at hM0
     obtain ⟨h1, h2, h3, h4, -⟩ := hM0
     obtain ⟨rfl, rfl⟩ := Q7O hgx.1 hk
     have hl : lx.length = ly.length := by
      have := congrArg List.length h4
      simpa [Q3s, Q4b] using this
     have hz := Q5n lx ly
     rw [cond_false, decide_eq_true h1.symm, decide_eq_true h3, decide_eq_true hl]
     refine Q0O av bv σ k ((lx.zip ly).reverse ++ st) g (by rw [Q87, Q88]; omega) (fun p hp => ?_) hσ (fun p hp => ?_)
     ·rcases List.mem_append.1 hp with hp | hp
      ·exact Qcd hgx.2 hgy.2 p (List.mem_reverse.1 hp)
      ·exact hgs p hp
     ·rcases List.mem_append.1 hp with hp | hp
      ·exact (Q6e av bv σ lx ly hl).2 h4 p (List.mem_reverse.1 hp)
      ·exact hMs p hp
theorem QG {v : Int} {t : Ty} (h : rightSB v t = true) : rightTyB t = true ∧ 0 ≤ v ∧ v ≤ 256 := by
 unfold rightSB at h
 simpa [Bool.and_eq_true] using h
theorem Q7U (av : Int) (t : Ty) (bv : Int) (u : Ty) : moreP av t bv u = true ↔ rightSB av t = true ∧ rightSB bv u = true ∧ ∃ σ, ownTy (rebT (sub av bv σ) t) = ownTy u := by
 unfold moreP
 cases ha : rightSB av t with
 | false => simp
 | true =>
   cases hb : rightSB bv u with
   | false => simp
   | true =>
     have ga := Qw (QG ha).1
     have gb := Qw (QG hb).1
     have hg : ∀ p ∈ [(t, u)], GoodP p := by simp; exact ⟨ga, gb⟩
     have hs : sumX [(t, u)] ≤ t.size := by simp [sumX]
     simp only [Bool.not_true, Bool.or_self, cond_false, true_and]
     constructor
     ·intro h
      obtain ⟨σ, -, h2⟩ := Q2n av bv t.size [(t, u)] _ hs hg h
      exact ⟨σ, h2 _ List.mem_cons_self⟩
     ·rintro ⟨σ, h⟩
      exact Q0O av bv σ t.size [(t, u)] _ hs hg (fun n u h => by cases h) (by intro p hp; rw [List.mem_singleton.1 hp]; exact h)
def numI (n : Int) : Bool := decide (-9223372036854775808 ≤ n) && decide (n ≤ 9223372036854775807)
theorem Q7V {n : Int} : numI n = true ↔ -9223372036854775808 ≤ n ∧ n ≤ 9223372036854775807 := by unfold numI; rw [Bool.and_eq_true, decide_eq_true_eq, decide_eq_true_eq]
def numB (u : Ty) : Bool := numI u.n
structure Sch where
 vars : Int
 ty : Ty
namespace Sch
def cells (x : Sch) : List AV := .int .i64 x.vars :: x.ty.cells
abbrev enc (x : Sch) : AV := .agg x.cells
end Sch
mutual
theorem QcB : ∀ t : Ty, allTy goodB t = true → allTy numB t = true → allTy (varB fun n => decide (0 ≤ n) && decide (n ≤ 9223372036854775807)) t = true
 | .mk k n s l b, hg, hn => by
   simp only [allTy, Bool.and_eq_true] at hg hn ⊢
   refine ⟨?_, Qav l hg.2 hn.2⟩
   show (!decide (k = 1) || (decide (0 ≤ n) && decide (n ≤ 9223372036854775807))) = true
   cases hk : decide (k = 1) with
   | true =>
     have h1 := Q7V.1 (show numI n = true from hn.1)
     rw [decide_eq_true (Q1d hg.1 hk).1, decide_eq_true h1.2]; rfl
   | false => rfl
theorem Qav : ∀ l : List Ty, allTys goodB l = true → allTys numB l = true → allTys (varB fun n => decide (0 ≤ n) && decide (n ≤ 9223372036854775807)) l = true
 | [], _, _ => rfl
 | t :: l, hg, hn => by
   simp only [allTys, Bool.and_eq_true] at hg hn ⊢
   exact ⟨QcB t hg.1 hn.1, Qav l hg.2 hn.2⟩
end
structure SchOK (x : Sch) : Prop where
 size : x.ty.size < 2^28
 names : NamesTy x.ty
 num : allTy numB x.ty = true
theorem SchOK.var {x : Sch} (h : SchOK x) (hr : rightTyB x.ty = true) : allTy (varB fun n => decide (0 ≤ n) && decide (n ≤ 9223372036854775807)) x.ty = true := QcB _ (Qw hr) h.num
end Go.Am