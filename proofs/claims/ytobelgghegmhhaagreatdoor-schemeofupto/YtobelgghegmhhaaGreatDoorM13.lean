/- A part of the proof: PTy2, PTy3, PTy4, PSch2, SSch5, PSch3. -/
import Derived.Test.YtobelgghegmhhaaGreatDoorM9
import Derived.Test.YtobelgghegmhhaaGreatDoorM12
set_option linter.unusedVariables false
set_option linter.unusedSimpArgs false
namespace Go.Am
open Go
mutual
theorem Qbt : ∀ t : Ty, eqTy t t = true
 | .mk k n s l b => by simp only [eqTy, Q9y l, decide_true, Bool.and_self]
theorem Q9y : ∀ l : List Ty, eqTys l l = true
 | [] => by simp only [eqTys]
 | t :: l => by simp only [eqTys, Qbt t, Q9y l, Bool.and_self]
end
theorem Q0F {k n : Int} {s : Str} {l : List Ty} {b : Bool} (h : goodB (.mk k n s l b) = true) (hk : k = 1) : 0 ≤ n ∧ s = [] ∧ l = [] := by
 have h : goodC k n s l.length (lowB s) = true := h
 unfold goodC at h
 simp only [decide_eq_true hk, cond_true, Bool.and_eq_true, decide_eq_true_eq] at h
 exact ⟨h.1.1, h.1.2, List.eq_nil_of_length_eq_zero (by omega)⟩
mutual
theorem Qky (L : List Ty) : ∀ t : Ty, allTy goodB t = true → putR L t = (chTy (toPut L) t ()).1
 | .mk k n s l b, h => by
   simp only [allTy, Bool.and_eq_true] at h
   simp only [putR, chTy]
   by_cases hk : k = 1
   ·obtain ⟨h0, rfl, rfl⟩ := Q0F h.1 hk
    simp only [decide_eq_true hk, cond_true, toPut]
    split
    ·rfl
    ·simp only [ownTy, ownTys, tvar, hk]
   ·simp only [decide_eq_false hk, cond_false, Qe6 L l h.2]
theorem Qe6 (L : List Ty) : ∀ l : List Ty, allTys goodB l = true → putRs L l = (chTys (toPut L) l ()).1
 | [], _ => by simp only [putRs, chTys]
 | t :: l, h => by
   simp only [allTys, Bool.and_eq_true] at h
   simp only [putRs, chTys, Qky L t h.1, Qe6 L l h.2]
end
theorem Z9 {n : Int} : ∀ {l : List Int} {i j : Nat}, placeI n l i = some j → i ≤ j ∧ j < i + l.length ∧ l[j - i]? = some n
 | [], _, _, h => by cases h
 | m :: l, i, j, h => by
   simp only [placeI] at h
   split at h
   ·rename_i e; cases h; exact ⟨Nat.le_refl _, by simp, by simp [e]⟩
   ·obtain ⟨h1, h2, h3⟩ := Z9 h
    refine ⟨by omega, by rw [List.length_cons]; omega, ?_⟩
    rw [show j - i = (j - (i + 1)) + 1 by omega]; simpa using h3
theorem Q68 (n : Int) (l : List Int) : placeR n l < 0 ↔ placeI n l 0 = none := by
 unfold placeR
 cases h : placeI n l 0 with
 | none => simp
 | some j => simp
theorem Qcd : ∀ (a b : List Ty) (acc : List Int), varsL (a ++ b) acc = varsL b (varsL a acc)
 | [], b, acc => rfl
 | u :: a, b, acc => by simp only [List.cons_append, varsL, Qcd a b]
theorem Q3c (n : Int) (old : List Int) : (toCanon n old).2 = if placeR n old < 0 then old ++ [n] else old := by
 unfold toCanon
 by_cases h : placeR n old < 0
 ·rw [if_pos h]; rw [Q68] at h; rw [h]
 ·rw [if_neg h]; rw [Q68] at h
  cases hp : placeI n old 0 with
  | none => exact absurd hp h
  | some j => rfl
mutual
theorem QeA : ∀ (t : Ty) (old : List Int), allTy goodB t = true → varsL (preTy t) old = (chTy toCanon t old).2
 | .mk k n s l b, old, h => by
   simp only [allTy, Bool.and_eq_true] at h
   have hv : varsL (preTy (.mk k n s l b)) old = varsL (preTys l) (bif decide (k = 1) && decide (placeR n old < 0) then old ++ [n] else old) := rfl
   rw [hv]
   simp only [chTy]
   by_cases hk : k = 1
   ·obtain ⟨h0, rfl, rfl⟩ := Q0F h.1 hk
    simp only [decide_eq_true hk, cond_true, Bool.true_and, preTys, varsL, Q3c]
    by_cases hp : placeR n old < 0
    ·simp [hp]
    ·simp [hp]
   ·simp only [decide_eq_false hk, cond_false, Bool.false_and, Qcf l old h.2]
theorem Qcf : ∀ (l : List Ty) (old : List Int), allTys goodB l = true → varsL (preTys l) old = (chTys toCanon l old).2
 | [], old, _ => by simp only [preTys, varsL, chTys]
 | t :: l, old, h => by
   simp only [allTys, Bool.and_eq_true] at h
   simp only [preTys, Qcd, chTys, QeA t old h.1, Qcf l _ h.2]
end
theorem QkL (t : Ty) (h : allTy goodB t = true) : varsTyR t = (canonTy t).2 := QeA t [] h
def Ext (a b : List Int) : Prop := ∃ c, b = a ++ c
theorem Ext.refl (a : List Int) : Ext a a := ⟨[], by simp⟩
theorem Ext.trans {a b c : List Int} (h : Ext a b) (g : Ext b c) : Ext a c := by
 obtain ⟨x, rfl⟩ := h; obtain ⟨y, rfl⟩ := g; exact ⟨x ++ y, by simp⟩
theorem Q40 {n : Int} {i j : Nat} : ∀ {a c : List Int}, placeI n a i = some j → placeI n (a ++ c) i = some j := by
 intro a
 induction a generalizing i with
 | nil => intro c h; cases h
 | cons m a ih =>
   intro c h
   simp only [List.cons_append, placeI] at h ⊢
   split at h
   ·rename_i e; rw [if_pos e]; exact h
   ·rename_i e; rw [if_neg e]; exact ih h
theorem Q8v (n : Int) (old : List Int) : Ext old (toCanon n old).2 := by
 rw [Q3c]; split
 ·exact ⟨_, rfl⟩
 ·exact .refl _
mutual
theorem QeQ : ∀ (t : Ty) (old : List Int), Ext old (chTy toCanon t old).2
 | .mk k n s l b, old => by
   simp only [chTy]
   cases decide (k = 1) with
   | true => exact Q8v n old
   | false => exact Q0w l old
theorem Q0w : ∀ (l : List Ty) (old : List Int), Ext old (chTys toCanon l old).2
 | [], old => .refl _
 | t :: l, old => by simp only [chTys]; exact (QeQ t old).trans (Q0w l _)
end
theorem toCanon_ty {n : Int} {old fin : List Int} (h : Ext (toCanon n old).2 fin) : (toCanon n old).1 = tvar (placeR n fin) ∧ ∃ j, placeI n fin 0 = some j := by
 obtain ⟨c, rfl⟩ := h
 unfold toCanon placeR
 cases hp : placeI n old 0 with
 | some j =>
   simp only []
   have := Q40 (c := c) hp
   rw [this]; exact ⟨rfl, j, rfl⟩
 | none =>
   simp only []
   have h1 : placeI n (old ++ [n]) 0 = some old.length := by
    rw [show placeI n (old ++ [n]) 0 = _ from placeI_app' n n old 0, hp]; simp
   have := Q40 (c := c) h1
   rw [this]; exact ⟨rfl, _, rfl⟩
where
 placeI_app' (n m : Int) : ∀ (l : List Int) (i : Nat), placeI n (l ++ [m]) i = match placeI n l i with | some j => some j | none => if n = m then some (i + l.length) else none
 | [], i => by simp [placeI]
 | a :: l, i => by
   simp only [List.cons_append, placeI, placeI_app' n m l (i + 1), List.length_cons]
   by_cases h : n = a
   ·simp [h]
   ·simp only [h, if_false]
    rw [show i + 1 + l.length = i + (l.length + 1) by omega]
mutual
theorem QkE : ∀ (t : Ty) (old fin : List Int), Ext (chTy toCanon t old).2 fin → renR fin t = (chTy toCanon t old).1
 | .mk k n s l b, old, fin, h => by
   simp only [chTy] at h ⊢
   simp only [renR]
   cases hk : decide (k = 1) with
   | true => rw [hk] at h; simp only [cond_true] at h ⊢; exact (toCanon_ty h).1.symm
   | false => rw [hk] at h; simp only [cond_false] at h ⊢; rw [Qed l old fin h]
theorem Qed : ∀ (l : List Ty) (old fin : List Int), Ext (chTys toCanon l old).2 fin → renRs fin l = (chTys toCanon l old).1
 | [], old, fin, _ => by simp only [renRs, chTys]
 | t :: l, old, fin, h => by
   simp only [chTys] at h ⊢
   simp only [renRs]
   rw [QkE t old fin ((Q0w l _).trans h), Qed l _ fin h]
end
theorem Ty.size_pos (t : Ty) : 1 ≤ t.size := by cases t; simp only [Ty.size]; omega
section
variable {σ : Type} (to : Int → σ → Ty × σ) (B : Nat)
mutual
theorem Qhf (h : ∀ n st, (to n st).1.size ≤ B) (hB : 1 ≤ B) : ∀ (t : Ty) (st : σ), (chTy to t st).1.size ≤ t.size * B
 | .mk k n s l b, st => by
   simp only [chTy, Ty.size, Nat.add_mul, Nat.one_mul]
   have h1 := h n st
   have h2 := Q9s h hB l st
   cases decide (k = 1) with
   | true => simp only [cond_true]; omega
   | false => simp only [cond_false, Ty.size]; omega
theorem Q9s (h : ∀ n st, (to n st).1.size ≤ B) (hB : 1 ≤ B) : ∀ (l : List Ty) (st : σ), Ty.sizes (chTys to l st).1 ≤ Ty.sizes l * B
 | [], st => by simp only [chTys, Ty.sizes]; omega
 | t :: l, st => by
   have h1 := Qhf h hB t st
   have h2 := Q9s h hB l (chTy to t st).2
   simp only [chTys, Ty.sizes, Nat.add_mul]; omega
end
end
end Go.Am
namespace Go.Am
open Go
mutual
theorem QfP : ∀ t : Ty, ownTy (ownTy t) = ownTy t
 | .mk k n s l b => by simp only [ownTy, Qe1 l]
theorem Qe1 : ∀ l : List Ty, ownTys (ownTys l) = ownTys l
 | [] => rfl
 | t :: l => by simp only [ownTys, QfP t, Qe1 l]
end
section
variable {σ : Type} (to : Int → σ → Ty × σ)
mutual
theorem Qhg : ∀ (t : Ty) (st : σ), chTy to (ownTy t) st = chTy to t st
 | .mk k n s l b, st => by simp only [ownTy, chTy, Qfy l st]
theorem Qfy : ∀ (l : List Ty) (st : σ), chTys to (ownTys l) st = chTys to l st
 | [], _ => rfl
 | t :: l, st => by simp only [ownTys, chTys, Qhg t st, Qfy l]
end
mutual
theorem QhO (h : ∀ n st, ownTy (to n st).1 = (to n st).1) : ∀ (t : Ty) (st : σ), ownTy (chTy to t st).1 = (chTy to t st).1
 | .mk k n s l b, st => by
   simp only [chTy]
   cases decide (k = 1) with
   | true => exact h n st
   | false => simp only [cond_false, ownTy, QfQ h l st]
theorem QfQ (h : ∀ n st, ownTy (to n st).1 = (to n st).1) : ∀ (l : List Ty) (st : σ), ownTys (chTys to l st).1 = (chTys to l st).1
 | [], _ => rfl
 | t :: l, st => by simp only [chTys, ownTys, QhO h t st, QfQ h l]
end
mutual
theorem Qki (h : ∀ n st, 0 ≤ n → (to n st).1 = tvar n) : ∀ (t : Ty) (st : σ), allTy goodB t = true → eqTy (chTy to t st).1 t = true
 | .mk k n s l b, st, g => by
   simp only [allTy, Bool.and_eq_true] at g
   simp only [chTy]
   by_cases hk : k = 1
   ·obtain ⟨h0, rfl, rfl⟩ := Q0F g.1 hk
    rw [decide_eq_true hk]; simp only [cond_true, h n st h0, tvar, eqTy, eqTys]
    rw [decide_eq_true hk.symm]; simp
   ·rw [decide_eq_false hk]; simp only [cond_false, eqTy, Qdh h l st g.2, decide_true, Bool.and_self]
theorem Qdh (h : ∀ n st, 0 ≤ n → (to n st).1 = tvar n) : ∀ (l : List Ty) (st : σ), allTys goodB l = true → eqTys (chTys to l st).1 l = true
 | [], _, _ => by simp only [chTys, eqTys]
 | t :: l, st, g => by
   simp only [allTys, Bool.and_eq_true] at g
   simp only [chTys, eqTys, Qki h t st g.1, Qdh h l _ g.2, Bool.and_self]
end
end
theorem Qi9 (l : List Ty) (n : Int) (u : Unit) : ownTy (toPut l n u).1 = (toPut l n u).1 := by
 simp only [toPut]
 split
 ·exact QfP _
 ·simp only [tvar, ownTy, ownTys]
mutual
def VarsLt (b : Int) : Ty → Prop
 | .mk k n _ l _ => (k = 1 → n < b) ∧ (k ≠ 1 → VarsLts b l)
def VarsLts (b : Int) : List Ty → Prop
 | [] => True
 | t :: l => VarsLt b t ∧ VarsLts b l
end
mutual
theorem Qik (b : Int) : ∀ (t : Ty) (old fin : List Int), Ext (chTy toCanon t old).2 fin → (∀ n ∈ fin, n < b) → VarsLt b t
 | .mk k n s l _, old, fin, h, hf => by
   simp only [chTy] at h
   simp only [VarsLt]
   by_cases hk : k = 1
   ·rw [decide_eq_true hk] at h; simp only [cond_true] at h
    obtain ⟨-, j, hj⟩ := toCanon_ty h
    have := (Z9 hj).2.2
    exact ⟨fun _ => hf n (List.mem_of_getElem? this), fun h => absurd hk h⟩
   ·rw [decide_eq_false hk] at h; simp only [cond_false] at h
    exact ⟨fun h => absurd h hk, fun _ => Qar b l old fin h hf⟩
theorem Qar (b : Int) : ∀ (l : List Ty) (old fin : List Int), Ext (chTys toCanon l old).2 fin → (∀ n ∈ fin, n < b) → VarsLts b l
 | [], _, _, _, _ => trivial
 | t :: l, old, fin, h, hf => by
   simp only [chTys] at h
   exact ⟨Qik b t old fin ((Q0w l _).trans h) hf, Qar b l _ fin h hf⟩
end
mutual
theorem Qkz (l k : List Ty) : ∀ (t : Ty), allTy goodB t = true → VarsLt l.length t → putTy (putTy t l) k = putTy t (l.map fun u => putTy u k)
 | .mk kd n s a b, h, hv => by
   simp only [allTy, Bool.and_eq_true] at h
   simp only [VarsLt] at hv
   by_cases hk : kd = 1
   ·obtain ⟨h0, -, -⟩ := Q0F h.1 hk
    have hn := hv.1 hk
    obtain ⟨m, rfl⟩ := Int.eq_ofNat_of_zero_le h0
    have hm : m < l.length := by omega
    have e1 : putTy (.mk kd (m : Int) s a b) l = ownTy l[m] := by
     simp only [putTy, chTy]; rw [decide_eq_true hk]; simp only [cond_true, toPut]
     rw [if_pos ⟨h0, hn⟩]; simp [hm]
    have e2 : putTy (.mk kd (m : Int) s a b) (l.map fun u => putTy u k) = ownTy (putTy l[m] k) := by
     simp only [putTy, chTy]; rw [decide_eq_true hk]; simp only [cond_true, toPut]
     rw [if_pos ⟨h0, by simpa using hn⟩]; simp [hm]
    rw [e1, e2]
    show (chTy (toPut k) (ownTy l[m]) ()).1 = ownTy (chTy (toPut k) l[m] ()).1
    rw [Qhg, QhO (toPut k) (Qi9 k)]
   ·have ih := Qe7 l k a h.2 (hv.2 hk)
    simp only [putTy, chTy]
    rw [decide_eq_false hk]; simp only [cond_false, chTy]
    rw [decide_eq_false hk]; simp only [cond_false]
    rw [ih]; rfl
theorem Qe7 (l k : List Ty) : ∀ (a : List Ty), allTys goodB a = true → VarsLts l.length a → (chTys (toPut k) (chTys (toPut l) a ()).1 ()).1 = (chTys (toPut (l.map fun u => putTy u k)) a ()).1
 | [], _, _ => rfl
 | t :: a, h, hv => by
   simp only [allTys, Bool.and_eq_true] at h
   simp only [VarsLts] at hv
   have h1 := Qkz l k t h.1 hv.1
   have h2 := Qe7 l k a h.2 hv.2
   show putTy (putTy t l) k :: _ = putTy t (l.map fun u => putTy u k) :: _
   rw [h1]
   exact congrArg _ h2
end
end Go.Am
namespace Go.Am
open Go
def rangeI (m : Nat) : List Int := (List.range m).map fun i : Nat => (i : Int)
theorem Q8q (m : Nat) : rangeI (m + 1) = rangeI m ++ [(m : Int)] := by simp [rangeI, List.range_succ]
theorem Q9T (m : Nat) : (rangeI m).length = m := by simp [rangeI]
theorem Q1O {n : Int} : ∀ {l : List Int} {i : Nat}, n ∉ l → placeI n l i = none
 | [], _, _ => rfl
 | m :: l, i, h => by
   simp only [placeI]
   rw [if_neg (fun e => h (by simp [e]))]
   exact Q1O fun hm => h (List.mem_cons_of_mem _ hm)
theorem Q7e : ∀ (m i : Nat), i < m → placeI (i : Int) (rangeI m) 0 = some i
 | 0, _, h => by omega
 | m + 1, i, h => by
   rw [Q8q]
   by_cases hi : i < m
   ·exact Q40 (Q7e m i hi)
   ·obtain rfl : i = m := by omega
    rw [toCanon_ty.placeI_app', Q1O (by simp [rangeI]; omega)]
    simp [Q9T]
theorem QcI (n : Int) (x : List Int) : ∃ p : Nat, (toCanon n x).1 = tvar p ∧ toCanon (p : Int) (rangeI x.length) = ((toCanon n x).1, rangeI (toCanon n x).2.length) := by
 cases h : placeI n x 0 with
 | some i =>
   have hi := (Z9 h).2.1
   have e : toCanon n x = (tvar (i : Int), x) := by simp only [toCanon, h]
   refine ⟨i, by rw [e], ?_⟩
   rw [e]
   simp only [toCanon, Q7e x.length i (by omega)]
 | none =>
   have e : toCanon n x = (tvar (x.length : Int), x ++ [n]) := by simp only [toCanon, h]
   refine ⟨x.length, by rw [e], ?_⟩
   rw [e]
   simp only [toCanon, List.length_append, List.length_singleton]
   rw [Q1O (by simp [rangeI]; omega)]
   simp only [Q9T, Q8q]
mutual
theorem QiF : ∀ (t : Ty) (x : List Int), chTy toCanon (chTy toCanon t x).1 (rangeI x.length) = ((chTy toCanon t x).1, rangeI (chTy toCanon t x).2.length)
 | .mk k n s l b, x => by
   simp only [chTy]
   cases hk : decide (k = 1) with
   | true =>
     simp only [cond_true]
     obtain ⟨p, e1, e2⟩ := QcI n x
     rw [e1] at e2 ⊢
     have : chTy toCanon (tvar p) (rangeI x.length) = toCanon p (rangeI x.length) := by simp only [tvar, chTy, decide_true, cond_true]
     rw [this, e2]
   | false =>
     simp only [cond_false, chTy, hk, Qbn l x]
theorem Qbn : ∀ (l : List Ty) (x : List Int), chTys toCanon (chTys toCanon l x).1 (rangeI x.length) = ((chTys toCanon l x).1, rangeI (chTys toCanon l x).2.length)
 | [], x => by simp only [chTys]
 | t :: l, x => by
   simp only [chTys]
   rw [QiF t x]
   simp only []
   rw [Qbn l (chTy toCanon t x).2]
end
mutual
theorem Qkh : ∀ (t : Ty) (x fin : List Int), Ext (chTy toCanon t x).2 fin → allTy goodB t = true → eqTy (putTy (chTy toCanon t x).1 (fin.map tvar)) t = true
 | .mk k n s l b, x, fin, h, g => by
   simp only [allTy, Bool.and_eq_true] at g
   simp only [chTy] at h ⊢
   by_cases hk : k = 1
   ·obtain ⟨h0, rfl, rfl⟩ := Q0F g.1 hk
    rw [decide_eq_true hk] at h ⊢
    simp only [cond_true] at h ⊢
    obtain ⟨e1, j, hj⟩ := toCanon_ty h
    have hpl := Z9 hj
    have ep : placeR n fin = (j : Int) := by unfold placeR; rw [hj]
    rw [e1, ep]
    have : putTy (tvar (j : Int)) (fin.map tvar) = tvar n := by
     simp only [putTy, tvar, chTy, decide_true, cond_true, toPut]
     have hjl : j < fin.length := by omega
     rw [if_pos ⟨by omega, by simp; omega⟩, List.getD_eq_getElem?_getD]
     have := hpl.2.2
     simp only [Nat.sub_zero] at this
     simp [this, ownTy, ownTys, tvar]
    rw [this]
    simp [tvar, eqTy, eqTys, hk]
   ·rw [decide_eq_false hk] at h ⊢
    simp only [cond_false] at h ⊢
    have ih := Qdg l x fin h g.2
    simp only [putTy, chTy]
    rw [decide_eq_false hk]
    simp only [cond_false, eqTy, ih, decide_true, Bool.and_self]
theorem Qdg : ∀ (l : List Ty) (x fin : List Int), Ext (chTys toCanon l x).2 fin → allTys goodB l = true → eqTys (chTys (toPut (fin.map tvar)) (chTys toCanon l x).1 ()).1 l = true
 | [], _, _, _, _ => by simp only [chTys, eqTys]
 | t :: l, x, fin, h, g => by
   simp only [allTys, Bool.and_eq_true] at g
   simp only [chTys] at h ⊢
   have h1 := Qkh t x fin ((Q0w l _).trans h) g.1
   have h2 := Qdg l _ fin h g.2
   simp only [putTy] at h1
   simp only [eqTys, h1, h2, Bool.and_self]
end
def headA (s t : Ty) : Bool := decide (s.kind = t.kind) && decide (s.name = t.name) && decide (s.args.length = t.args.length) && (decide (s.kind = 1) || decide (s.n = t.n))
def innerA (s t : Ty) : List Ty → List Ty → Bool
 | a :: A, b :: B => !(decide (a.kind = 1) && !(decide (a.n = s.n) == decide (b.n = t.n))) && innerA s t A B
 | _, _ => true
def alikeL : List Ty → List Ty → List Ty → List Ty → Bool
 | pa, pb, s :: X, t :: Y => headA s t && (bif decide (s.kind = 1) then innerA s t pa pb else true) && alikeL (pa ++ [s]) (pb ++ [t]) X Y
 | _, _, _, _ => true
theorem Q9E (s t : Ty) : ∀ (A B : List Ty), A.length = B.length → (innerA s t A B = true ↔ ∀ (k : Nat) (a b : Ty), A[k]? = some a → B[k]? = some b → a.kind = 1 → (a.n = s.n ↔ b.n = t.n))
 | [], [], _ => by simp [innerA]
 | [], _ :: _, h => by simp at h
 | _ :: _, [], h => by simp at h
 | a :: A, b :: B, h => by
   have ih := Q9E s t A B (by simpa using h)
   simp only [innerA, Bool.and_eq_true, ih]
   constructor
   ·rintro ⟨h1, h2⟩ k a' b' ha hb hk
    cases k with
    | zero =>
      simp only [List.getElem?_cons_zero, Option.some.injEq] at ha hb
      subst ha; subst hb
      rw [decide_eq_true hk] at h1
      simp only [Bool.true_and, Bool.not_not, beq_iff_eq] at h1
      exact decide_eq_decide.1 h1
    | succ k => exact h2 k a' b' (by simpa using ha) (by simpa using hb) hk
   ·intro h1
    refine ⟨?_, fun k a' b' ha hb => h1 (k + 1) a' b' (by simpa using ha) (by simpa using hb)⟩
    by_cases hk : a.kind = 1
    ·have := h1 0 a b rfl rfl hk
     have e : decide (a.n = s.n) = decide (b.n = t.n) := decide_eq_decide.2 this
     rw [decide_eq_true hk, e]; simp
    ·rw [decide_eq_false hk]; simp
structure Met (pa pb : List Ty) (x y : List Int) : Prop where
 len : pa.length = pb.length
 xlen : x.length = y.length
 kind : ∀ (k : Nat) (a b : Ty), pa[k]? = some a → pb[k]? = some b → (a.kind = 1 ↔ b.kind = 1) ∧ (a.kind = 1 → ∃ j, placeI a.n x 0 = some j ∧ placeI b.n y 0 = some j)
 cx : ∀ n j, placeI n x 0 = some j → ∃ (k : Nat) (a : Ty), pa[k]? = some a ∧ a.kind = 1 ∧ a.n = n
 cy : ∀ n j, placeI n y 0 = some j → ∃ (k : Nat) (b : Ty), pb[k]? = some b ∧ b.kind = 1 ∧ b.n = n
def posC (n : Int) (x : List Int) : Nat := match placeI n x 0 with | some i => i | none => x.length
theorem Q3d (n : Int) (x : List Int) : (toCanon n x).1 = tvar (posC n x) := by
 unfold toCanon posC
 cases placeI n x 0 <;> rfl
theorem Q9R {n m : Int} {l : List Int} {j : Nat} (h : placeI n l 0 = some j) (g : placeI m l 0 = some j) : n = m := by
 have h1 := (Z9 h).2.2
 have h2 := (Z9 g).2.2
 rw [h1] at h2
 exact Option.some.inj h2
theorem Met.inner {pa pb : List Ty} {x y : List Int} (M : Met pa pb x y) (s t : Ty) : innerA s t pa pb = true ↔ posC s.n x = posC t.n y := by
 rw [Q9E s t pa pb M.len]
 have other : ∀ {k : Nat} {a : Ty}, pa[k]? = some a → ∃ b, pb[k]? = some b := fun {k a} h => by
  have := (List.getElem?_eq_some_iff.1 h).1
  exact ⟨_, List.getElem?_eq_getElem (by rw [← M.len]; exact this)⟩
 have other' : ∀ {k : Nat} {b : Ty}, pb[k]? = some b → ∃ a, pa[k]? = some a := fun {k b} h => by
  have := (List.getElem?_eq_some_iff.1 h).1
  exact ⟨_, List.getElem?_eq_getElem (by rw [M.len]; exact this)⟩
 have hxl := M.xlen
 unfold posC
 constructor
 ·intro h
  cases hx : placeI s.n x 0 with
  | some i =>
    obtain ⟨k, a, ha, hk, hn⟩ := M.cx _ _ hx
    obtain ⟨b, hb⟩ := other ha
    obtain ⟨j, h1, h2⟩ := (M.kind k a b ha hb).2 hk
    have := (h k a b ha hb hk).1 hn
    rw [hn, hx] at h1
    cases h1
    rw [this] at h2
    rw [h2]
  | none =>
    cases hy : placeI t.n y 0 with
    | none => exact hxl
    | some i =>
      obtain ⟨k, b, hb, hk, hn⟩ := M.cy _ _ hy
      obtain ⟨a, ha⟩ := other' hb
      have hka := (M.kind k a b ha hb).1.2 hk
      obtain ⟨j, h1, h2⟩ := (M.kind k a b ha hb).2 hka
      have := (h k a b ha hb hka).2 hn
      rw [this, hx] at h1
      cases h1
 ·intro h k a b ha hb hk
  obtain ⟨j, h1, h2⟩ := (M.kind k a b ha hb).2 hk
  have hj1 := (Z9 h1).2.1
  have hj2 := (Z9 h2).2.1
  cases hx : placeI s.n x 0 with
  | some i =>
    have hi := (Z9 hx).2.1
    rw [hx] at h
    cases hy : placeI t.n y 0 with
    | none => rw [hy] at h; simp only at h; omega
    | some i' =>
      rw [hy] at h
      simp only at h
      subst h
      constructor
      ·intro e; rw [e, hx] at h1; cases h1; exact Q9R h2 hy
      ·intro e; rw [e, hy] at h2; cases h2; exact Q9R h1 hx
  | none =>
    rw [hx] at h
    cases hy : placeI t.n y 0 with
    | some i' => have := (Z9 hy).2.1; rw [hy] at h; simp only at h; omega
    | none =>
      constructor
      ·intro e; rw [e, hx] at h1; cases h1
      ·intro e; rw [e, hy] at h2; cases h2
theorem Q5Y {α : Type} {l : List α} {a b : α} {k : Nat} (h : (l ++ [a])[k]? = some b) : l[k]? = some b ∨ (k = l.length ∧ b = a) := by
 by_cases hk : k < l.length
 ·rw [List.getElem?_append_left hk] at h; exact .inl h
 ·rw [List.getElem?_append_right (by omega)] at h
  have : k - l.length = 0 := by
   cases hq : k - l.length with
   | zero => rfl
   | succ q => rw [hq] at h; simp at h
  rw [this] at h
  simp at h
  exact .inr ⟨by omega, h.symm⟩
theorem Q7J {α : Type} {l : List α} {a b : α} {k : Nat} (h : l[k]? = some b) : (l ++ [a])[k]? = some b := by
 rw [List.getElem?_append_left (List.getElem?_eq_some_iff.1 h).1]; exact h
theorem Met.node {pa pb : List Ty} {x y : List Int} (M : Met pa pb x y) {s t : Ty} (hs : s.kind ≠ 1) (ht : t.kind ≠ 1) : Met (pa ++ [s]) (pb ++ [t]) x y where
 len := by simp [M.len]
 xlen := M.xlen
 kind := fun k a b ha hb => by
  rcases Q5Y ha with ha | ⟨hk, rfl⟩ <;> rcases Q5Y hb with hb | ⟨hk', rfl⟩
  ·exact M.kind k a b ha hb
  ·have := (List.getElem?_eq_some_iff.1 ha).1; have := M.len; omega
  ·have := (List.getElem?_eq_some_iff.1 hb).1; have := M.len; omega
  ·exact ⟨⟨fun h => absurd h hs, fun h => absurd h ht⟩, fun h => absurd h hs⟩
 cx := fun n j h => by obtain ⟨k, a, h1, h2⟩ := M.cx n j h; exact ⟨k, a, Q7J h1, h2⟩
 cy := fun n j h => by obtain ⟨k, a, h1, h2⟩ := M.cy n j h; exact ⟨k, a, Q7J h1, h2⟩
theorem Q7d (n : Int) (x : List Int) : placeI n (toCanon n x).2 0 = some (posC n x) := by
 unfold toCanon posC
 cases h : placeI n x 0 with
 | some i => exact h
 | none => simp only []; rw [toCanon_ty.placeI_app', h]; simp
theorem Q8n {m : Int} {j : Nat} (n : Int) {x : List Int} (h : placeI m x 0 = some j) : placeI m (toCanon n x).2 0 = some j := by
 obtain ⟨c, hc⟩ := Q8v n x
 rw [hc]; exact Q40 h
theorem Q8m {m n : Int} {j : Nat} {x : List Int} (h : placeI m (toCanon n x).2 0 = some j) : m = n ∨ placeI m x 0 = some j := by
 unfold toCanon at h
 cases hp : placeI n x 0 with
 | some i => rw [hp] at h; exact .inr h
 | none =>
   rw [hp] at h
   simp only at h
   rw [toCanon_ty.placeI_app'] at h
   cases hm : placeI m x 0 with
   | some i => rw [hm] at h; exact .inr h
   | none =>
     rw [hm] at h
     simp only at h
     split at h
     ·rename_i e; exact .inl e
     ·cases h
theorem Q8w (n : Int) (x : List Int) : (toCanon n x).2.length = if posC n x < x.length then x.length else x.length + 1 := by
 unfold toCanon posC
 cases h : placeI n x 0 with
 | some i => have := (Z9 h).2.1; simp only []; rw [if_pos (by omega)]
 | none => simp
theorem Met.var {pa pb : List Ty} {x y : List Int} (M : Met pa pb x y) {s t : Ty} (hs : s.kind = 1) (ht : t.kind = 1) (hp : posC s.n x = posC t.n y) : Met (pa ++ [s]) (pb ++ [t]) (toCanon s.n x).2 (toCanon t.n y).2 where
 len := by simp [M.len]
 xlen := by rw [Q8w, Q8w, hp, M.xlen]
 kind := fun k a b ha hb => by
  rcases Q5Y ha with ha | ⟨hk, rfl⟩ <;> rcases Q5Y hb with hb | ⟨hk', rfl⟩
  ·obtain ⟨h1, h2⟩ := M.kind k a b ha hb
   exact ⟨h1, fun h => by obtain ⟨j, g1, g2⟩ := h2 h; exact ⟨j, Q8n _ g1, Q8n _ g2⟩⟩
  ·have := (List.getElem?_eq_some_iff.1 ha).1; have := M.len; omega
  ·have := (List.getElem?_eq_some_iff.1 hb).1; have := M.len; omega
  ·exact ⟨⟨fun _ => ht, fun _ => hs⟩, fun _ => ⟨_, Q7d _ _, by rw [hp]; exact Q7d _ _⟩⟩
 cx := fun n j h => by
  rcases Q8m h with rfl | h
  ·exact ⟨pa.length, s, by simp, hs, rfl⟩
  ·obtain ⟨k, a, h1, h2⟩ := M.cx n j h; exact ⟨k, a, Q7J h1, h2⟩
 cy := fun n j h => by
  rcases Q8m h with rfl | h
  ·exact ⟨pb.length, t, by simp, ht, rfl⟩
  ·obtain ⟨k, a, h1, h2⟩ := M.cy n j h; exact ⟨k, a, Q7J h1, h2⟩
theorem Qhk (p q : Nat) : eqTy (tvar (p : Int)) (tvar (q : Int)) = decide (p = q) := by
 simp only [tvar, eqTy, eqTys, decide_true, Bool.true_and, Bool.and_true]
 rw [decide_eq_decide]; omega
mutual
theorem Qg6 : ∀ (t u : Ty) (pa pb : List Ty) (x y : List Int), Met pa pb x y → allTy goodB t = true → allTy goodB u = true →
  (eqTy (chTy toCanon t x).1 (chTy toCanon u y).1 = true → t.size = u.size ∧ Met (pa ++ preTy t) (pb ++ preTy u) (chTy toCanon t x).2 (chTy toCanon u y).2) ∧
  ∀ R S, alikeL pa pb (preTy t ++ R) (preTy u ++ S) = (eqTy (chTy toCanon t x).1 (chTy toCanon u y).1 && alikeL (pa ++ preTy t) (pb ++ preTy u) R S)
 | .mk k n s l b, .mk k' n' s' l' b', pa, pb, x, y, M, g, g' => by
   simp only [allTy, Bool.and_eq_true] at g g'
   have hpre : ∀ R, preTy (.mk k n s l b) ++ R = .mk k n s l b :: (preTys l ++ R) := fun _ => rfl
   have hpre' : ∀ R, preTy (.mk k' n' s' l' b') ++ R = .mk k' n' s' l' b' :: (preTys l' ++ R) := fun _ => rfl
   have hcons : ∀ _ : Unit, pa ++ preTy (.mk k n s l b) = pa ++ [.mk k n s l b] ++ preTys l := fun _ => by simp [preTy]
   have hcons' : ∀ _ : Unit, pb ++ preTy (.mk k' n' s' l' b') = pb ++ [.mk k' n' s' l' b'] ++ preTys l' := fun _ => by simp [preTy]
   have step : ∀ X Y, alikeL pa pb (.mk k n s l b :: X) (.mk k' n' s' l' b' :: Y) = (headA (.mk k n s l b) (.mk k' n' s' l' b') && (bif decide (k = 1) then innerA (.mk k n s l b) (.mk k' n' s' l' b') pa pb else true) && alikeL (pa ++ [.mk k n s l b]) (pb ++ [.mk k' n' s' l' b']) X Y) := fun _ _ => rfl
   have head : headA (.mk k n s l b) (.mk k' n' s' l' b') = (decide (k = k') && decide (s = s') && decide (l.length = l'.length) && (decide (k = 1) || decide (n = n'))) := rfl
   by_cases hk : k = 1
   ·obtain ⟨h0, rfl, rfl⟩ := Q0F g.1 hk
    by_cases hk' : k' = 1
    ·obtain ⟨h0', rfl, rfl⟩ := Q0F g'.1 hk'
     have e1 : chTy toCanon (.mk k n [] [] b) x = toCanon n x := by simp only [chTy]; rw [decide_eq_true hk]; rfl
     have e2 : chTy toCanon (.mk k' n' [] [] b') y = toCanon n' y := by simp only [chTy]; rw [decide_eq_true hk']; rfl
     rw [e1, e2, Q3d, Q3d, Qhk]
     have hin := M.inner (.mk k n [] [] b) (.mk k' n' [] [] b')
     have hin' : innerA (.mk k n [] [] b) (.mk k' n' [] [] b') pa pb = decide (posC n x = posC n' y) := by
      rw [Bool.eq_iff_iff, decide_eq_true_iff]; exact hin
     refine ⟨fun h => ⟨rfl, ?_⟩, fun R S => ?_⟩
     ·simp only [preTy, preTys]
      exact M.var (s := .mk k n [] [] b) (t := .mk k' n' [] [] b') hk hk' (of_decide_eq_true h)
     ·rw [hpre, hpre', step, head, hin', decide_eq_true hk, decide_eq_true (hk.trans hk'.symm)]
      simp only [preTys, List.nil_append, preTy, cond_true, decide_true, Bool.true_and, Bool.true_or]
    ·have e1 : chTy toCanon (.mk k n [] [] b) x = toCanon n x := by simp only [chTy]; rw [decide_eq_true hk]; rfl
     have e2 : (chTy toCanon (.mk k' n' s' l' b') y).1 = .mk k' n' s' (chTys toCanon l' y).1 true := by simp only [chTy]; rw [decide_eq_false hk']; rfl
     have e3 : eqTy (chTy toCanon (.mk k n [] [] b) x).1 (chTy toCanon (.mk k' n' s' l' b') y).1 = false := by
      rw [e1, e2, Q3d]; simp only [tvar, eqTy]; rw [decide_eq_false (fun h => hk' h.symm)]; simp
     rw [e3]
     refine ⟨fun h => (by cases h), fun R S => ?_⟩
     rw [hpre, hpre', step, head, decide_eq_false (fun h => hk' (h.symm.trans hk))]
     simp
   ·by_cases hk' : k' = 1
    ·have e1 : (chTy toCanon (.mk k n s l b) x).1 = .mk k n s (chTys toCanon l x).1 true := by simp only [chTy]; rw [decide_eq_false hk]; rfl
     have e2 : chTy toCanon (.mk k' n' s' l' b') y = toCanon n' y := by simp only [chTy]; rw [decide_eq_true hk']; rfl
     have e3 : eqTy (chTy toCanon (.mk k n s l b) x).1 (chTy toCanon (.mk k' n' s' l' b') y).1 = false := by
      rw [e1, e2, Q3d]; simp only [tvar, eqTy]; rw [decide_eq_false hk]; simp
     rw [e3]
     refine ⟨fun h => (by cases h), fun R S => ?_⟩
     rw [hpre, hpre', step, head, decide_eq_false (fun h => hk (h.trans hk'))]
     simp
    ·have e1 : chTy toCanon (.mk k n s l b) x = (.mk k n s (chTys toCanon l x).1 true, (chTys toCanon l x).2) := by simp only [chTy]; rw [decide_eq_false hk]; rfl
     have e2 : chTy toCanon (.mk k' n' s' l' b') y = (.mk k' n' s' (chTys toCanon l' y).1 true, (chTys toCanon l' y).2) := by simp only [chTy]; rw [decide_eq_false hk']; rfl
     rw [e1, e2]
     simp only [eqTy]
     have M' := M.node (s := .mk k n s l b) (t := .mk k' n' s' l' b') hk hk'
     by_cases hl : l.length = l'.length
     ·obtain ⟨i1, i2⟩ := Q56 l l' _ _ x y M' g.2 g'.2 hl
      refine ⟨fun h => ?_, fun R S => ?_⟩
      ·simp only [Bool.and_eq_true] at h
       obtain ⟨j1, j2⟩ := i1 h.2
       refine ⟨by simp only [Ty.size, j1], ?_⟩
       rw [hcons (), hcons' ()]; exact j2
      ·rw [hpre, hpre', step, head, i2, hcons (), hcons' (), decide_eq_false hk, decide_eq_true hl]
       simp only [cond_false, Bool.and_true, Bool.false_or]
       cases decide (k = k') <;> cases decide (s = s') <;> cases decide (n = n') <;> simp
     ·have e3 : eqTys (chTys toCanon l x).1 (chTys toCanon l' y).1 = false := Q4J _ _ (by rw [Q4G, Q4G]; exact hl)
      rw [e3, Bool.and_false]
      refine ⟨fun h => (by cases h), fun R S => ?_⟩
      rw [hpre, hpre', step, head, decide_eq_false hl]
      simp
theorem Q56 : ∀ (l m : List Ty) (pa pb : List Ty) (x y : List Int), Met pa pb x y → allTys goodB l = true → allTys goodB m = true → l.length = m.length →
  (eqTys (chTys toCanon l x).1 (chTys toCanon m y).1 = true → Ty.sizes l = Ty.sizes m ∧ Met (pa ++ preTys l) (pb ++ preTys m) (chTys toCanon l x).2 (chTys toCanon m y).2) ∧
  ∀ R S, alikeL pa pb (preTys l ++ R) (preTys m ++ S) = (eqTys (chTys toCanon l x).1 (chTys toCanon m y).1 && alikeL (pa ++ preTys l) (pb ++ preTys m) R S)
 | [], [], pa, pb, x, y, M, _, _, _ => by
   simp only [preTys, chTys, eqTys, List.append_nil, List.nil_append, Bool.true_and]
   exact ⟨fun _ => ⟨trivial, M⟩, fun _ _ => trivial⟩
 | [], _ :: _, _, _, _, _, _, _, _, h => by simp at h
 | _ :: _, [], _, _, _, _, _, _, _, h => by simp at h
 | t :: l, u :: m, pa, pb, x, y, M, g, g', h => by
   simp only [allTys, Bool.and_eq_true] at g g'
   obtain ⟨i1, i2⟩ := Qg6 t u pa pb x y M g.1 g'.1
   simp only [chTys, eqTys, preTys, Ty.sizes]
   refine ⟨fun hh => ?_, fun R S => ?_⟩
   ·simp only [Bool.and_eq_true] at hh
    obtain ⟨j1, j2⟩ := i1 hh.1
    obtain ⟨k1, -⟩ := Q56 l m _ _ _ _ j2 g.2 g'.2 (by simpa using h)
    obtain ⟨q1, q2⟩ := k1 hh.2
    refine ⟨by rw [j1, q1], ?_⟩
    rw [← List.append_assoc, ← List.append_assoc]; exact q2
   ·rw [List.append_assoc, List.append_assoc, i2]
    cases he : eqTy (chTy toCanon t x).1 (chTy toCanon u y).1 with
    | false => simp
    | true =>
      obtain ⟨j1, j2⟩ := i1 he
      obtain ⟨-, k2⟩ := Q56 l m _ _ _ _ j2 g.2 g'.2 (by simpa using h)
      rw [k2, Bool.true_and, Bool.true_and, List.append_assoc, List.append_assoc]
end
theorem Met.nil : Met [] [] [] [] := ⟨rfl, rfl, by simp, by simp [placeI], by simp [placeI]⟩
end Go.Am
namespace Go.Am
open Go
def oldS (v keep : List Int) : List Int := v.filter (fun n => !hasI keep n) ++ v.filter (fun n => hasI keep n)
def ownN (v keep : List Int) : Nat := (v.filter fun n => !hasI keep n).length
def posV (old : List Int) (n : Int) : Int := match placeI n old 0 with | some i => i | none => 0
def numF (old : List Int) (n : Int) : Ty := tvar (posV old n)
def ofP (t : Ty) (keep : List Int) : Int × Ty :=
 bif rightTyB t then ((ownN (canonTy t).2 keep : Nat), rebT (numF (oldS (canonTy t).2 keep)) t) else (0, zeroTy)
mutual
def numT (old : List Int) : Ty → Ty
 | .mk k n s l _ => bif decide (k = 1) && decide (0 ≤ placeR n old) then tvar (placeR n old) else .mk k n s (numTs old l) true
def numTs (old : List Int) : List Ty → List Ty
 | [] => []
 | t :: l => numT old t :: numTs old l
end
def of10 (t : Ty) (keep : List Int) : Int × Ty :=
 bif rightTyB t then ((ownN (varsTyR t) keep : Nat), numT (oldS (varsTyR t) keep) t) else (0, zeroTy)
theorem Q2b {k n : Int} {s : Str} {l : List Ty} {b : Bool} (h : goodB (.mk k n s l b) = true) (hk : decide (k = 1) = true) : 0 ≤ n ∧ s = [] ∧ l = [] := Q0F h (of_decide_eq_true hk)
theorem Q1x {p : Int → Bool} {k n : Int} {s : Str} {l : List Ty} {b : Bool} (h : varB p (.mk k n s l b) = true) (hk : decide (k = 1) = true) : p n = true := by
 have h : (!decide (k = 1) || p n) = true := h
 rw [hk] at h
 exact h
mutual
theorem QfW : ∀ (t : Ty) (old fin : List Int), allTy goodB t = true → Ext (chTy toCanon t old).2 fin → allTy (varB fun n => decide (n ∈ fin)) t = true
 | .mk k n s l b, old, fin, hg, h => by
   simp only [allTy, Bool.and_eq_true] at hg
   simp only [chTy] at h
   simp only [allTy, Bool.and_eq_true]
   cases hk : decide (k = 1) with
   | true =>
     obtain ⟨-, rfl, rfl⟩ := Q2b hg.1 hk
     rw [hk] at h
     obtain ⟨-, j, hj⟩ := toCanon_ty h
     have hm : n ∈ fin := List.mem_of_getElem? (Z9 hj).2.2
     refine ⟨?_, rfl⟩
     unfold varB
     simp only [Ty.n, hm, decide_true, Bool.or_true]
   | false =>
     rw [hk] at h
     refine ⟨?_, QeB l old fin hg.2 h⟩
     unfold varB
     rw [show (Ty.mk k n s l b).kind = k from rfl, hk]; rfl
theorem QeB : ∀ (l : List Ty) (old fin : List Int), allTys goodB l = true → Ext (chTys toCanon l old).2 fin → allTys (varB fun n => decide (n ∈ fin)) l = true
 | [], _, _, _, _ => rfl
 | t :: l, old, fin, hg, h => by
   simp only [allTys, Bool.and_eq_true] at hg
   simp only [chTys] at h
   simp only [allTys, Bool.and_eq_true]
   exact ⟨QfW t old fin hg.1 ((Q0w l _).trans h), QeB l _ fin hg.2 h⟩
end
theorem QiE (t : Ty) (h : allTy goodB t = true) : allTy (varB fun n => decide (n ∈ (canonTy t).2)) t = true := QfW t [] _ h (.refl _)
theorem Q3y {n : Int} : ∀ {l : List Int} {i : Nat}, n ∈ l → ∃ j, placeI n l i = some j
 | m :: l, i, h => by
   by_cases hn : n = m
   ·exact ⟨i, by simp [placeI, hn]⟩
   ·rcases List.mem_cons.1 h with h | h
    ·exact absurd h hn
    ·obtain ⟨j, hj⟩ := Q3y (i := i + 1) h
     exact ⟨j, by simp [placeI, hn, hj]⟩
theorem Qgz {n : Int} {l : List Int} (h : placeI n l 0 = none) : n ∉ l := fun hm => by
 obtain ⟨j, hj⟩ := Q3y (i := 0) hm
 rw [h] at hj; cases hj
theorem Qj5 (v keep : List Int) (n : Int) : n ∈ oldS v keep ↔ n ∈ v := by
 unfold oldS
 simp only [List.mem_append, List.mem_filter]
 cases hasI keep n <;> simp
theorem QcJ (n : Int) {old : List Int} (h : old.Nodup) : (toCanon n old).2.Nodup := by
 rw [Q3c]
 split
 ·rename_i hp
  have := Qgz ((Q68 n old).1 hp)
  rw [List.nodup_append]
  refine ⟨h, by simp, fun a ha b hb => ?_⟩
  simp only [List.mem_singleton] at hb
  subst hb
  rintro rfl
  exact this ha
 ·exact h
mutual
theorem Qdf : ∀ (t : Ty) (old : List Int), old.Nodup → (chTy toCanon t old).2.Nodup
 | .mk k n s l b, old, h => by
   simp only [chTy]
   cases decide (k = 1) with
   | true => exact QcJ n h
   | false => exact Qbo l old h
theorem Qbo : ∀ (l : List Ty) (old : List Int), old.Nodup → (chTys toCanon l old).2.Nodup
 | [], old, h => h
 | t :: l, old, h => by simp only [chTys]; exact Qbo l _ (Qdf t old h)
end
theorem QeP (t : Ty) : (canonTy t).2.Nodup := Qdf t [] List.nodup_nil
mutual
theorem QhK (old : List Int) : ∀ t : Ty, allTy goodB t = true → allTy (varB fun n => decide (n ∈ old)) t = true → numT old t = rebT (numF old) t
 | .mk k n s l b, hg, h => by
   simp only [allTy, Bool.and_eq_true] at hg h
   simp only [numT, rebT]
   cases hk : decide (k = 1) with
   | true =>
     have h1 := of_decide_eq_true (Q1x h.1 hk)
     obtain ⟨j, hj⟩ := Q3y (i := 0) h1
     have : placeR n old = (j : Int) := by unfold placeR; rw [hj]
     rw [this]
     simp only [Bool.true_and, cond_true, numF, posV, hj]
     rw [decide_eq_true (by omega)]; rfl
   | false => simp only [Bool.false_and, cond_false, QfM old l hg.2 h.2]
theorem QfM (old : List Int) : ∀ l : List Ty, allTys goodB l = true → allTys (varB fun n => decide (n ∈ old)) l = true → numTs old l = rebTs (numF old) l
 | [], _, _ => rfl
 | t :: l, hg, h => by
   simp only [allTys, Bool.and_eq_true] at hg h
   simp only [numTs, rebTs, QhK old t hg.1 h.1, QfM old l hg.2 h.2]
end
mutual
theorem Q6I {p q : Ty → Bool} (h : ∀ t, p t = true → q t = true) : ∀ t : Ty, allTy p t = true → allTy q t = true
 | .mk k n s l b, g => by
   simp only [allTy, Bool.and_eq_true] at g ⊢
   exact ⟨h _ g.1, Q9n h l g.2⟩
theorem Q9n {p q : Ty → Bool} (h : ∀ t, p t = true → q t = true) : ∀ l : List Ty, allTys p l = true → allTys q l = true
 | [], _ => rfl
 | t :: l, g => by
   simp only [allTys, Bool.and_eq_true] at g ⊢
   exact ⟨Q6I h t g.1, Q9n h l g.2⟩
end
theorem QjH {p q : Int → Bool} (h : ∀ n, p n = true → q n = true) (t : Ty) (g : varB p t = true) : varB q t = true := by
 unfold varB at g ⊢
 simp only [Bool.or_eq_true] at g ⊢
 exact g.imp id (h _)
theorem Q01 {t : Ty} (h : rightTyB t = true) : allTy goodB t = true := by
 unfold rightTyB at h
 simp only [Bool.and_eq_true] at h
 exact h.2
theorem Q6r {t : Ty} (h : rightTyB t = true) : t.size ≤ 256 := by
 unfold rightTyB at h
 simp only [Bool.and_eq_true, decide_eq_true_eq] at h
 exact h.1
theorem QmB (t : Ty) (keep : List Int) : ofP t keep = of10 t keep := by
 unfold ofP of10
 cases hr : rightTyB t with
 | false => rfl
 | true =>
   have hg := Q01 hr
   simp only [cond_true, QkL t hg]
   rw [QhK _ t hg (Q6I (QjH fun n hn => by simpa [Qj5] using hn) t (QiE t hg))]
end Go.Am
namespace Go.Proofs.YtobelgghegmhhaaGreatDoor
open Go Go.Am
set_option linter.unusedVariables false
set_option maxRecDepth 4000
theorem Q5l (n : Int) (L : List Int) (x : Slot) (hx : x.list? = some (L.map ekI)) (hl : L.length < 2^40) (s : St) : ∀ (suf pre : List Int) (i : Nat), pre ++ suf = L → i = pre.length →
  ∃ r, QS x (.val (.int .i64 n)) (.val (.int .i64 L.length)) (.val (.int .i64 i)) s = some (.ret (.val (.int .i64 r)), s) ∧ decide (r ≥ 0) = hasI suf n
 | [], pre, i, h, hi => by
   subst hi
   refine ⟨-1, ?_, rfl⟩
   rw [Q0H]; simp only [go_sem, Int.reduceNeg, Qf (by simpa using h)]
 | m :: suf, pre, i, h, hi => by
   subst hi
   obtain ⟨f1, f2, f3⟩ := Qc (f := ekI) (sz := 1) hx h (by omega) rfl (by decide)
   have hh : hasI (m :: suf) n = (decide (m = n) || hasI suf n) := rfl
   simp only [ekI] at f2
   rw [Q0H, hh]
   by_cases hm : n = m
   ·refine ⟨pre.length, by simp only [go_sem, Int.reduceNeg, Nat.reduceAdd, Nat.reduceLeDiff, f1, f2, f3, decide_eq_true hm], ?_⟩
    rw [decide_eq_true hm.symm]; simp
   ·obtain ⟨r, e, hr⟩ := Q5l n L x hx hl s suf (pre ++ [m]) (pre.length + 1) (by simpa using h) (by simp)
    refine ⟨r, by simp only [go_sem, Int.reduceNeg, Nat.reduceAdd, Nat.reduceLeDiff, f1, f2, f3, decide_eq_false hm, e], ?_⟩
    rw [hr, decide_eq_false (fun h => hm h.symm)]; rfl
theorem Q7O (n : Int) (L : List Int) (v : AV) (hv : (Slot.val v).list? = some (L.map ekI)) (hl : L.length < 2^40) (s : St) : cw (.f ZA) [v, .int .i64 n] s = some (.ret (.val (.bool (hasI L n))), s) := by
 obtain ⟨r, e, hr⟩ := Q5l n L (.val v) hv hl s L [] 0 rfl rfl
 have e1 : cw (.f Zi) [v, .int .i64 n] s = some (.ret (.val (.int .i64 r)), s) := by
  rw [Q4v]
  rw [show ((0 : Nat) : Int) = 0 from rfl] at e
  simp only [go_sem, hv, List.length_map, e]
 rw [Q3p, ← hr]
 simp only [go_sem, e1]
theorem Qfn {K V : Type} [DecidableEq K] {ek : K → AV} {ev : V → AV} {g : K → Option V} {es : List (AV × AV × Nat)} {c : Nat} {D : List (K × V × Nat)} (M : MapIs ek ev g es c D) (hk : KeyEnc ek) {kt et : TI} (k : K) (hkt : isKey kt (ek k) = true) {s : St} {loc : Nat} (hl : s.locs[loc]? = some (.map es c)) {x : Slot} {v : V} (hx : x.av = some (ev v)) (hs : (ev v).cells.length = et.size) (hg : g k = none) :
  ∃ es' c' D', updateS kt et s (.val (.mp loc)) (.val (ek k)) x = some (.no, { s with locs := s.locs.set loc (.map es' c') }) ∧ MapIs ek ev (upd g k v) es' c' D' ∧ es'.length = es.length + 1 := by
 rcases M.update hk k v with ⟨j, v0, b, h1, h2, h3, D', h4⟩ | ⟨h1, h2, D', h4⟩
 ·rw [hg] at h2; cases h2
 ·exact ⟨_, _, D', by simp only [updateS, Q1p, hx, hkt, hs, and_self, if_true, hl, h1], h4, by simp⟩
structure OfMap (s : St) (M P : Nat) (old : List Int) : Prop where
 ptr : s.locs[P]? = some (.var [.val (.mp M)])
 map : ∃ es c D, s.locs[M]? = some (.map es c) ∧ MapIs ekI ekI (oldV old) es c D ∧ es.length = old.length
theorem OfMap.grew {s s' : St} {M P : Nat} {old : List Int} (h : OfMap s M P old) (g : ∀ (i : Nat) (x : Am.Obj), s.locs[i]? = some x → s'.locs[i]? = some x) : OfMap s' M P old := by
 obtain ⟨h1, es, c, D, h2, h3⟩ := h
 exact ⟨g _ _ h1, es, c, D, g _ _ h2, h3⟩
theorem QhM {old : List Int} {n : Int} (h : placeI n old 0 = none) : oldV (old ++ [n]) = upd (oldV old) n (old.length : Int) := by
 funext m
 unfold oldV upd
 rw [Q67]
 by_cases hm : m = n
 ·subst hm; simp [h]
 ·simp only [hm, if_false]
  cases placeI m old 0 <;> rfl
theorem QhL {old : List Int} {n : Int} (h : n ∉ old) : oldV old n = none := by
 unfold oldV
 rw [Q1O h]
theorem Q91 (M P : Nat) (old : List Int) (n : Int) (s : St) (h : OfMap s M P old) : cw (.f Q21) [.int .i64 n, .vp P 0] s = some (.ret (.val (numF old n).enc), s) := by
 obtain ⟨h1, es, c, D, h2, h3, h4⟩ := h
 have hlk : lookupS (C.ti Q1) (C.ti Q1) s (.val (.mp M)) (.val (ekI n)) false = some (.val (ekI (posV old n))) := by
  rw [Q59 h3 keyInt (kt := C.ti Q1) (et := C.ti Q1) n (Q2h Q15 n) h2 (z := .int .i64 0) (Qch Q9j Q6F Q9k) false]
  unfold oldV posV
  cases placeI n old 0 <;> rfl
 have e1 := Q0T (posV old n) s
 rw [Qb2]
 simp only [ekI, Ty.enc, tvar] at hlk e1
 simp only [go_sem, Nat.reduceAdd, Nat.reduceLeDiff, Zb h1, hlk, e1, numF, tvar, Ty.enc]
def ofNew (keep : List Int) (kept : Bool) (l : List Int) : List Int := l.filter fun n => hasI keep n == kept
theorem Q9Q (keep : List Int) (kept : Bool) (n : Int) (l : List Int) : ofNew keep kept (n :: l) = bif hasI keep n == kept then n :: ofNew keep kept l else ofNew keep kept l := by
 unfold ofNew
 rw [List.filter_cons]
 cases hasI keep n == kept <;> rfl
theorem Q77 {keep : List Int} {kept : Bool} {l : List Int} {n : Int} (h : n ∈ ofNew keep kept l) : n ∈ l ∧ (hasI keep n == kept) = true := List.mem_filter.1 h
theorem Q0o (keep V : List Int) (v : AV) (hv : (Slot.val v).list? = some (keep.map ekI)) (hk : keep.length < 2^40) (x2 x4 : List Slot) (x6 x16 x17 x23 : Slot) (hx : x23.list? = some (V.map ekI)) (hV : V.length < 2^40) (kept : Bool) (k : Nat) (hk2 : k < 2) (M P : Nat) (hMP : M < P) (s0 : St) (hb : s0.locs.length ≤ M) :
  ∀ (suf pre old : List Int) (s : St) (i : Nat), pre ++ suf = V → i = pre.length → OfMap s M P old → Grew s0 s → suf.Nodup → (∀ n ∈ ofNew keep kept suf, n ∉ old) →
  ∃ s', Q0E (.val v) x2 x4 (.val (.vp P 0)) x6 (.val (.bool kept)) x16 x17 (.val (.int .i64 k)) x23 (.val (.int .i64 V.length)) (.val (.int .i64 i)) s =
    Zc (.val v) x2 x4 (.val (.vp P 0)) (bif kept then x6 else .val (.int .i64 (old ++ ofNew keep kept suf).length)) x16 x17 (.val (.int .i64 ((k + 1 : Nat) : Int))) s' ∧ OfMap s' M P (old ++ ofNew keep kept suf) ∧ Grew s0 s'
 | [], pre, old, s, i, h, hi, hM, g, _, _ => by
   subst hi
   refine ⟨s, ?_, by simpa [ofNew] using hM, g⟩
   obtain ⟨h1, es, c, D, h2, h3, h4⟩ := hM
   have hlen : lenM s (.val (.mp M)) = some (.val (.int .i64 es.length)) := by simp only [lenM, h2]
   have hnx : IntKind.i64.wrap ((k : Int) + 1) = ((k + 1 : Nat) : Int) := by rw [wrap64 (by omega) (by omega)]; rfl
   rw [Q4V]
   cases kept with
   | true => simp only [go_sem, Qf (by simpa using h), hnx]
   | false => simp only [go_sem, Nat.reduceAdd, Nat.reduceLeDiff, Qf (by simpa using h), hnx, Zb h1, hlen, h4, ofNew, List.filter_nil, List.append_nil]
 | n :: suf, pre, old, s, i, h, hi, hM, g, hn, hd => by
   subst hi
   obtain ⟨f1, f2, f3⟩ := Qc (f := ekI) (sz := 1) hx h (by omega) rfl (by decide)
   simp only [ekI] at f2
   have e1 := Q7O n keep v hv hk s
   rw [List.nodup_cons] at hn
   rw [Q4V]
   cases hc : (hasI keep n == kept) with
   | false =>
     have hN : ofNew keep kept (n :: suf) = ofNew keep kept suf := by rw [Q9Q, hc]; rfl
     rw [hN] at hd ⊢
     obtain ⟨s', e2, h2, h3⟩ := Q0o keep V v hv hk x2 x4 x6 x16 x17 x23 hx hV kept k hk2 M P hMP s0 hb suf (pre ++ [n]) old s (pre.length + 1) (by simpa using h) (by simp) hM g hn.2 hd
     refine ⟨s', ?_, h2, h3⟩
     simp only [go_sem, Nat.reduceAdd, Nat.reduceLeDiff, f1, f2, f3, e1, hc, e2]
   | true =>
     have hN : ofNew keep kept (n :: suf) = n :: ofNew keep kept suf := by rw [Q9Q, hc]; rfl
     rw [hN] at hd ⊢
     have hno : n ∉ old := hd n List.mem_cons_self
     obtain ⟨h1, es, c, D, h2, h3, h4⟩ := hM
     obtain ⟨es', c', D', eu, hM', hl'⟩ := Qfn h3 keyInt (kt := C.ti Q1) (et := C.ti Q1) n (Q2h Q15 n) h2 (x := .val (.int .i64 old.length)) (v := (old.length : Int)) rfl (by rw [Q1F]; rfl) (QhL hno)
     have hlen : lenM s (.val (.mp M)) = some (.val (.int .i64 old.length)) := by simp only [lenM, h2, h4]
     have hM2 : OfMap { s with locs := s.locs.set M (.map es' c') } M P (old ++ [n]) := by
      refine ⟨?_, es', c', D', Q5B h2, by rw [QhM (Q1O hno)]; exact hM', by rw [hl', h4]; simp⟩
      show (s.locs.set M _)[P]? = _
      rw [List.getElem?_set_ne (by omega)]; exact h1
     obtain ⟨s', e2, h5, h6⟩ := Q0o keep V v hv hk x2 x4 x6 x16 x17 x23 hx hV kept k hk2 M P hMP s0 hb suf (pre ++ [n]) (old ++ [n]) { s with locs := s.locs.set M (.map es' c') } (pre.length + 1) (by simpa using h) (by simp) hM2 (Q70 g hb _) hn.2 (fun m hm => by
      have h7 := hd m (List.mem_cons_of_mem _ hm)
      rw [List.mem_append, List.mem_singleton]
      rintro (h8 | rfl)
      ·exact h7 h8
      ·exact hn.1 (Q77 hm).1)
     rw [List.append_assoc] at e2 h5
     refine ⟨s', ?_, h5, h6⟩
     simp only [ekI] at eu
     simp only [go_sem, Nat.reduceAdd, Nat.reduceLeDiff, f1, f2, f3, e1, hc, Zb h1, hlen, eu, e2]
theorem Qjc (V keep : List Int) : oldS V keep = ofNew keep false V ++ ofNew keep true V := by
 unfold oldS ofNew
 congr 1
 all_goals exact List.filter_congr fun n _ => by cases hasI keep n <;> rfl
theorem Qjf (V keep : List Int) : ownN V keep = (ofNew keep false V).length := by
 unfold ownN ofNew
 refine congrArg List.length ?_
 exact List.filter_congr fun n _ => by cases hasI keep n <;> rfl
theorem Q5z (t : Ty) (keep : List Int) (v : AV) (hv : (Slot.val v).list? = some (keep.map ekI)) (hk : keep.length < 2^40) (s : St) (h : t.size < 2^28) (hn : NamesTy t) :
  Ret (cw (.f Q10) [t.enc, v] s) s (.agg (.int .i64 (ofP t keep).1 :: (ofP t keep).2.cells)) := by
 obtain ⟨s1, e1, g1⟩ := Q3C t s (by omega) hn
 have c := Ty.cells_eq t
 rw [Qef]
 unfold ofP
 cases hr : rightTyB t with
 | false =>
   rw [hr] at e1
   simp only [go_sem, Nat.reduceAdd, Nat.reduceLeDiff, c, Ty.enc] at e1 ⊢
   simp only [go_sem, e1]
   exact ⟨s1, rfl, g1⟩
 | true =>
   rw [hr] at e1
   let s2 : St := (s1.addLoc (.map [] 0)).addLoc (.var [.val (.mp s1.locs.length)])
   have hM0 : OfMap s2 s1.locs.length (s1.locs.length + 1) [] := ⟨by simp [s2, St.addLoc], [], 0, [], by simp [s2, St.addLoc], .nil, rfl⟩
   have g2 : Grew s1 s2 := ((Grew.refl s1).addLoc _).addLoc _
   have hV := QeP t
   have hVl : (canonTy t).2.length < 2^40 := by
    have := Q84 t []
    simp only [List.length_nil] at this
    show (chTy toCanon t []).2.length < _
    omega
   have i0 : ixS 1 (.full [.bool false, .bool true]) (.val (.int .i64 0)) = some (.val (.cp [.bool false])) := rfl
   have i1 : ixS 1 (.full [.bool false, .bool true]) (.val (.int .i64 1)) = some (.val (.cp [.bool true])) := rfl
   obtain ⟨s3, e3, g3⟩ := Q7B t s2 h
   obtain ⟨s4, e4, h4, g4⟩ := Q0o keep (canonTy t).2 v hv hk (t.cells.map .val) ((C.ti Q7).zero.map .val) (.val (.int .i64 0)) (.full [.bool false, .bool true]) (.val (.int .i64 2)) (.val (encS true ((canonTy t).2.map ekI))) (Qa _ _) hVl false 0 (by decide) s1.locs.length (s1.locs.length + 1) (by omega) s1 (Nat.le_refl _) (canonTy t).2 [] [] s3 0 rfl rfl (hM0.grew fun i x => g3.loc) (g2.trans g3) hV (by simp)
   obtain ⟨s5, e5, g5⟩ := Q7B t s4 h
   obtain ⟨s6, e6, h6, g6⟩ := Q0o keep (canonTy t).2 v hv hk (t.cells.map .val) ((C.ti Q7).zero.map .val) (.val (.int .i64 ([] ++ ofNew keep false (canonTy t).2).length)) (.full [.bool false, .bool true]) (.val (.int .i64 2)) (.val (encS true ((canonTy t).2.map ekI))) (Qa _ _) hVl true 1 (by decide) s1.locs.length (s1.locs.length + 1) (by omega) s1 (Nat.le_refl _) (canonTy t).2 [] ([] ++ ofNew keep false (canonTy t).2) s5 0 rfl rfl (h4.grew fun i x => g5.loc) (g4.trans g5) hV (fun n hn hm => by
    have h1 := (Q77 hn).2
    have h2 := (Q77 (by simpa using hm)).2
    cases hh : hasI keep n <;> rw [hh] at h1 h2 <;> simp at h1 h2)
   rw [List.nil_append, ← Qjc] at h6
   obtain ⟨s7, e7, g7⟩ := Q2Q (numF (oldS (canonTy t).2 keep)) (fun _ => true) Q21 [.vp (s1.locs.length + 1) 0] (by kernel_rfl) (fun s => OfMap s s1.locs.length (s1.locs.length + 1) (oldS (canonTy t).2 keep)) (fun s s' hq g => hq.grew g)
    (fun n s hq _ => ⟨s, Q91 _ _ _ n s hq, .refl s⟩) t (ZU t h) (Q6I (p := goodB) (fun u _ => by unfold varB; simp) t (Q01 hr)) s6 h6
   have cr := Ty.cells_eq (rebT (numF (oldS (canonTy t).2 keep)) t)
   have L0 : Zc (.val v) (t.cells.map .val) ((C.ti Q7).zero.map .val) (.val (.vp (s1.locs.length + 1) 0)) (.val (.int .i64 0)) (.full [.bool false, .bool true]) (.val (.int .i64 2)) (.val (.int .i64 0)) s2 = some (.ret (.val (.agg (.int .i64 (ownN (canonTy t).2 keep : Nat) :: (rebT (numF (oldS (canonTy t).2 keep)) t).cells))), s7) := by
    rw [show ((0 : Nat) : Int) = 0 from rfl, show ((0 + 1 : Nat) : Int) = 1 from rfl] at e4
    rw [show ((0 : Nat) : Int) = 0 from rfl, show ((1 : Nat) : Int) = 1 from rfl, show ((1 + 1 : Nat) : Int) = 2 from rfl] at e6
    have t1 : Zc (.val v) (t.cells.map .val) ((C.ti Q7).zero.map .val) (.val (.vp (s1.locs.length + 1) 0)) (.val (.int .i64 ([] ++ ofNew keep false (canonTy t).2).length)) (.full [.bool false, .bool true]) (.val (.int .i64 2)) (.val (.int .i64 2)) s6 = some (.ret (.val (.agg (.int .i64 (ownN (canonTy t).2 keep : Nat) :: (rebT (numF (oldS (canonTy t).2 keep)) t).cells))), s7) := by
     rw [Q2L, Qjf]
     simp only [Ty.enc, c, cr] at e7 ⊢
     simp only [go_sem, Int.reduceLT, Nat.reduceAdd, Nat.reduceLeDiff, e7, List.nil_append]
    have t2 : Zc (.val v) (t.cells.map .val) ((C.ti Q7).zero.map .val) (.val (.vp (s1.locs.length + 1) 0)) (.val (.int .i64 ([] ++ ofNew keep false (canonTy t).2).length)) (.full [.bool false, .bool true]) (.val (.int .i64 2)) (.val (.int .i64 1)) s4 = some (.ret (.val (.agg (.int .i64 (ownN (canonTy t).2 keep : Nat) :: (rebT (numF (oldS (canonTy t).2 keep)) t).cells))), s7) := by
     rw [← t1, Q2L]
     simp only [cond_true] at e6
     rw [← e6]
     simp only [Ty.enc, c] at e5 ⊢
     simp only [go_sem, Int.reduceLT, Nat.reduceAdd, Nat.reduceLeDiff, i1, e5, Qa, List.length_map]
    rw [← t2, Q2L]
    simp only [cond_false] at e4
    rw [← e4]
    simp only [Ty.enc, c] at e3 ⊢
    simp only [go_sem, Int.reduceLT, Nat.reduceAdd, Nat.reduceLeDiff, i0, e3, Qa, List.length_map]
   simp only [go_sem, Nat.reduceAdd, Nat.reduceLeDiff, c, Ty.enc] at e1 L0 ⊢
   simp only [go_sem, e1]
   refine ⟨s7, ?_, ((g1.trans g6)).trans g7⟩
   exact L0
end Go.Proofs.YtobelgghegmhhaaGreatDoor
namespace Go.Am
open Go
mutual
theorem Qmt : ∀ t u : Ty, eqTy t u = true ↔ ownTy t = ownTy u
 | .mk k n s l b, .mk k' n' s' l' b' => by
   have := QfA l l'
   simp only [eqTy, ownTy, Bool.and_eq_true, decide_eq_true_eq, Ty.mk.injEq, this, and_true]
   constructor
   ·rintro ⟨⟨⟨h1, h2⟩, h3⟩, h4⟩; exact ⟨h1, h2, h3, h4⟩
   ·rintro ⟨h1, h2, h3, h4⟩; exact ⟨⟨⟨h1, h2⟩, h3⟩, h4⟩
theorem QfA : ∀ l m : List Ty, eqTys l m = true ↔ ownTys l = ownTys m
 | [], [] => by simp [eqTys, ownTys]
 | [], _ :: _ => by simp [eqTys, ownTys]
 | _ :: _, [] => by simp [eqTys, ownTys]
 | t :: l, u :: m => by simp only [eqTys, ownTys, Bool.and_eq_true, Qmt t u, QfA l m, List.cons.injEq]
end
mutual
theorem QkC (f : Int → Ty) : ∀ t : Ty, rebT f (ownTy t) = rebT f t
 | .mk k n s l b => by simp only [ownTy, rebT, Qe9 f l]
theorem Qe9 (f : Int → Ty) : ∀ l : List Ty, rebTs f (ownTys l) = rebTs f l
 | [] => rfl
 | t :: l => by simp only [ownTys, rebTs, QkC f t, Qe9 f l]
end
mutual
theorem QkD (f g : Int → Ty) : ∀ t : Ty, rebT f (rebT g t) = rebT (fun n => rebT f (g n)) t
 | .mk k n s l b => by
   simp only [rebT]
   cases hk : decide (k = 1) with
   | true => rfl
   | false => simp only [cond_false, rebT, hk, QbS f g l]
theorem QbS (f g : Int → Ty) : ∀ l : List Ty, rebTs f (rebTs g l) = rebTs (fun n => rebT f (g n)) l
 | [] => rfl
 | t :: l => by simp only [rebTs, QkD f g t, QbS f g l]
end
theorem Q7h (f : Int → Ty) : ∀ l : List Ty, rebTs f l = l.map (rebT f)
 | [] => rfl
 | t :: l => by simp only [rebTs, List.map_cons, Q7h f l]
mutual
theorem QhR {f g : Int → Ty} {p : Int → Bool} (h : ∀ n, p n = true → f n = g n) : ∀ t : Ty, allTy (varB p) t = true → rebT f t = rebT g t
 | .mk k n s l b, hp => by
   simp only [allTy, Bool.and_eq_true] at hp
   simp only [rebT]
   cases hk : decide (k = 1) with
   | true => exact h n (Q1x hp.1 hk)
   | false => simp only [cond_false, Q9V h l hp.2]
theorem Q9V {f g : Int → Ty} {p : Int → Bool} (h : ∀ n, p n = true → f n = g n) : ∀ l : List Ty, allTys (varB p) l = true → rebTs f l = rebTs g l
 | [], _ => rfl
 | t :: l, hp => by
   simp only [allTys, Bool.and_eq_true] at hp
   simp only [rebTs, QhR h t hp.1, Q9V h l hp.2]
end
mutual
theorem Qjl {f : Int → Ty} (h : ∀ n, 0 ≤ n → f n = tvar n) : ∀ t : Ty, allTy goodB t = true → ownTy (rebT f t) = ownTy t
 | .mk k n s l b, hg => by
   simp only [allTy, Bool.and_eq_true] at hg
   simp only [rebT]
   cases hk : decide (k = 1) with
   | true =>
     obtain ⟨h0, rfl, rfl⟩ := Q2b hg.1 hk
     obtain rfl := of_decide_eq_true hk
     rw [cond_true, h n h0]; rfl
   | false => simp only [cond_false, ownTy, QbT h l hg.2]
theorem QbT {f : Int → Ty} (h : ∀ n, 0 ≤ n → f n = tvar n) : ∀ l : List Ty, allTys goodB l = true → ownTys (rebTs f l) = ownTys l
 | [], _ => rfl
 | t :: l, hg => by
   simp only [allTys, Bool.and_eq_true] at hg
   simp only [rebTs, ownTys, Qjl h t hg.1, QbT h l hg.2]
end
def moreF (av bv : Int) : Nat → List (Ty × Ty) → (Int → Option Ty) → Bool
 | 0, _, _ => true
 | _ + 1, [], _ => true
 | k + 1, (x, y) :: st, g =>
   bif decide (x.kind = 1) then
    (bif decide (x.n < av) then (match g x.n with
      | some was => bif eqTy was y then moreF av bv k st g else false
      | none => moreF av bv k st (upd g x.n y))
    else bif !decide (y.kind = 1) || (decide (y.n < bv) || !decide (y.n - bv = x.n - av)) then false else moreF av bv k st g)
   else bif !decide (y.kind = 2) || (!decide (x.name = y.name) || !decide (x.args.length = y.args.length)) then false else moreF av bv k ((x.args.zip y.args).reverse ++ st) g
def moreP (av : Int) (t : Ty) (bv : Int) (u : Ty) : Bool := bif !rightSB av t || !rightSB bv u then false else moreF av bv t.size [(t, u)] (fun _ => none)
def sub (av bv : Int) (σ : Int → Ty) (n : Int) : Ty := bif decide (n < av) then σ n else tvar (n - av + bv)
def sumX (l : List (Ty × Ty)) : Nat := (l.map fun p => p.1.size).sum
theorem Q4Y (p : Ty × Ty) (l : List (Ty × Ty)) : sumX (p :: l) = p.1.size + sumX l := by simp [sumX]
theorem Qjv (a b : List (Ty × Ty)) : sumX (a ++ b) = sumX a + sumX b := by simp [sumX]
theorem Qjw (a : List (Ty × Ty)) : sumX a.reverse = sumX a := by simp [sumX]
theorem Qep : ∀ (a b : List Ty), sumX (a.zip b) ≤ Ty.sizes a
 | [], _ => by simp [sumX]
 | _ :: _, [] => by simp [sumX]
 | t :: a, u :: b => by
   have := Qep a b
   rw [List.zip_cons_cons, Q4Y, Ty.sizes]
   show t.size + _ ≤ _
   omega
theorem Q1o {p : Ty → Bool} : ∀ {l : List Ty}, allTys p l = true → ∀ t ∈ l, allTy p t = true
 | x :: l, h, t, ht => by
   simp only [allTys, Bool.and_eq_true] at h
   rcases List.mem_cons.1 ht with rfl | ht
   ·exact h.1
   ·exact Q1o h.2 t ht
theorem Q0S {v : Int} {t : Ty} (h : rightSB v t = true) : rightTyB t = true ∧ 0 ≤ v ∧ v ≤ 256 := by
 unfold rightSB at h
 simpa [Bool.and_eq_true] using h
def numI (n : Int) : Bool := decide (-9223372036854775808 ≤ n) && decide (n ≤ 9223372036854775807)
theorem Q8Q {n : Int} : numI n = true ↔ -9223372036854775808 ≤ n ∧ n ≤ 9223372036854775807 := by unfold numI; rw [Bool.and_eq_true, decide_eq_true_eq, decide_eq_true_eq]
def numB (u : Ty) : Bool := numI u.n
structure Sch where
 vars : Int
 ty : Ty
namespace Sch
def cells (x : Sch) : List AV := .int .i64 x.vars :: x.ty.cells
abbrev enc (x : Sch) : AV := .agg x.cells
end Sch
mutual
theorem QdW : ∀ t : Ty, allTy goodB t = true → allTy numB t = true → allTy (varB fun n => decide (0 ≤ n) && decide (n ≤ 9223372036854775807)) t = true
 | .mk k n s l b, hg, hn => by
   simp only [allTy, Bool.and_eq_true] at hg hn ⊢
   refine ⟨?_, QbJ l hg.2 hn.2⟩
   show (!decide (k = 1) || (decide (0 ≤ n) && decide (n ≤ 9223372036854775807))) = true
   cases hk : decide (k = 1) with
   | true =>
     have h1 := Q8Q.1 (show numI n = true from hn.1)
     rw [decide_eq_true (Q2b hg.1 hk).1, decide_eq_true h1.2]; rfl
   | false => rfl
theorem QbJ : ∀ l : List Ty, allTys goodB l = true → allTys numB l = true → allTys (varB fun n => decide (0 ≤ n) && decide (n ≤ 9223372036854775807)) l = true
 | [], _, _ => rfl
 | t :: l, hg, hn => by
   simp only [allTys, Bool.and_eq_true] at hg hn ⊢
   exact ⟨QdW t hg.1 hn.1, QbJ l hg.2 hn.2⟩
end
structure SchOK (x : Sch) : Prop where
 size : x.ty.size < 2^28
 names : NamesTy x.ty
 num : allTy numB x.ty = true
theorem SchOK.var {x : Sch} (h : SchOK x) (hr : rightTyB x.ty = true) : allTy (varB fun n => decide (0 ≤ n) && decide (n ≤ 9223372036854775807)) x.ty = true := QdW _ (Q01 hr) h.num
end Go.Am