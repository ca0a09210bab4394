/- A part of the proof: SArr2, PTy, PSame, STree1, STree2, STree3, STree4. -/
import Derived.Test.YtoahliipbclneaaGreatM3
import Derived.Test.YtoahliipbclneaaGreatM6
import Derived.Test.YtoahliipbclneaaGreatM7
import Derived.Test.YtoahliipbclneaaGreatM8
set_option linter.unusedVariables false
set_option linter.unusedSimpArgs false
namespace Go.Proofs.YtoahliipbclneaaGreat
open Go Go.Am
set_option linter.unusedVariables false
set_option maxRecDepth 4000
theorem Q5h (a b : List AV) : flatL (a ++ b) = flatL a ++ flatL b := by simp [flatL]
def _root_.Go.Am.St.kill (s : St) (k : Nat) : St := { s with locs := s.locs.set k .dead }
def _root_.Go.Am.St.turn (s : St) (k : Nat) (o : Am.Obj) : St := { s with locs := s.locs.set k .dead ++ [o] }
theorem Holds.lt {s : St} {k : Nat} {l : List AV} (h : Holds s k l) : k < s.locs.length := (List.getElem?_eq_some_iff.1 h).1
theorem Holds.kill {s : St} {j k : Nat} {l : List AV} (h : Holds s j l) (n : j ≠ k) : Holds (s.kill k) j l := by
 unfold Holds St.kill at *
 rw [List.getElem?_set_ne (Ne.symm n)]; exact h
theorem Holds.turn {s : St} {j k : Nat} {l : List AV} (h : Holds s j l) (n : j ≠ k) (o : Am.Obj) : Holds (s.turn k o) j l := by
 have hl := h.lt
 unfold Holds St.turn at *
 simp only []
 rw [List.getElem?_append_left (by rw [List.length_set]; exact hl), List.getElem?_set_ne (Ne.symm n)]; exact h
theorem Qa4 (s : St) (k : Nat) (l : List AV) : Holds (s.turn k (.var ((flatL l).map .val))) s.locs.length l := by
 unfold Holds St.turn
 simp only []
 rw [List.getElem?_append_right (by rw [List.length_set]; exact Nat.le_refl _), List.length_set, Nat.sub_self]; rfl
theorem Qca (s : St) (l : List AV) : Holds (s.addLoc (.var ((flatL l).map .val))) s.locs.length l := Q57 _ _
theorem Holds.put {s : St} {j k : Nat} {l : List AV} (h : Holds s j l) (n : j ≠ k) (o : Am.Obj) : Holds { s with locs := s.locs.set k o } j l := by
 unfold Holds at *
 simp only []
 rw [List.getElem?_set_ne (Ne.symm n)]; exact h
theorem Qc9 {s0 s : St} (h : Grew s0 s) {k : Nat} (hk : s0.locs.length ≤ k) (o : Am.Obj) : Grew s0 (s.turn k o) := by
 have := (Q5i h hk .dead).addLoc o
 exact this
theorem Qig (s : St) (k : Nat) (o : Am.Obj) : (s.turn k o).locs.length = s.locs.length + 1 := by simp [St.turn]
theorem Q9B {e : TypeId} {t : TI} {s : St} {loc : Nat} {l m : List AV} {y : Slot} (h : Holds s loc l) (hl : ∀ v ∈ l, v.cells.length = t.size) (hy : y.list? = some m) (hm0 : m ≠ []) (hm : ∀ v ∈ m, v.cells.length = t.size) (h0 : 0 < t.size)
  (b1 : (l.length + m.length) * t.bytes ≤ 140737488355328) (b2 : l.length + m.length ≤ 9223372036854775807) :
  appendV e t s (.val (.vs loc e t.size 0 l.length)) y = some (.val (.vs s.locs.length e t.size 0 (l.length + m.length)), s.turn loc (.var ((flatL (l ++ m)).map .val))) := by
 have hlen := Q1y hl
 unfold appendV
 rw [hy]
 cases m with
 | nil => exact absurd rfl hm0
 | cons a m =>
   simp only [ZP hm h0, cond_true]
   unfold Holds at h
   rw [h]
   simp only []
   rw [if_pos ⟨trivial, by simp [hlen], b1, b2⟩]
   simp only [St.turn]
   rw [List.take_of_length_le (by simp [hlen]), Q5h, List.map_append]
theorem QdG (f : AV → St → Option (AV × St)) : ∀ (a b : List AV) (s : St), frzW f (a ++ b) s = match frzW f a s with
  | some (l, s') => match frzW f b s' with
    | some (m, s'') => some (l ++ m, s'')
    | none => none
  | none => none
 | [], b, s => by simp only [List.nil_append, frzW]; cases frzW f b s <;> rfl
 | v :: a, b, s => by
   simp only [List.cons_append, frzW]
   cases f v s with
   | none => rfl
   | some p =>
     obtain ⟨v', s'⟩ := p
     simp only [QdG f a b s']
     cases frzW f a s' with
     | none => rfl
     | some q =>
       obtain ⟨l, s''⟩ := q
       simp only []
       cases frzW f b s'' <;> rfl
theorem Qh5 {s : St} {loc : Nat} {l : List AV} (h : Holds s loc l) {ti : TypeId → TI} {e : TypeId} (n : Nat) (hs : ∀ v ∈ l, v.cells.length = (ti e).size ∧ ofCells (ti e) v.cells = some v) (hp : ∀ v ∈ l, ∀ x ∈ v.cells, plainV x = true) (h0 : 0 < (ti e).size) :
  Am.frz ti (n + 2) (.vs loc e (ti e).size 0 l.length) s = some (.sl l, s.kill loc) := by
 have hl := Q1y (fun v hv => (hs v hv).1)
 unfold Holds at h
 simp only [Am.frz, h]
 rw [Nat.zero_mul, List.drop_zero, List.take_of_length_le (by simp only [List.length_map, hl]; omega), Q5w]
 simp only []
 rw [Q6f ti n _ _ (by intro v hv; obtain ⟨w, hw, hx⟩ := List.mem_flatMap.1 hv; exact hp w hw v hx)]
 simp only []
 rw [Q4k hs]
 simp only [List.length_map, hl, Nat.zero_add]
 rw [show (Nat.blt 0 (ti e).size && Nat.ble (l.length * (ti e).size) (l.length * (ti e).size)) = true by simp [h0, Nat.blt_eq, Nat.ble_eq]]
 rfl
theorem Q8Y {x : Option Slot} {d m h : Nat} (hd : d ≤ m) (e : bound x d m = some h) : h ≤ m := by
 unfold bound at e
 split at e
 ·cases e; exact hd
 ·split at e
  ·rename_i h1; cases e; omega
  ·cases e
 ·cases e
theorem Q8J {t : TI} {e : TypeId} (hk : t.k = .slice e) {x : Slot} {L : List AV} (hv : x.list? = some L) {sz : Nat} (hs : ∀ x ∈ L, x.cells.length = sz) (h0 : 0 < sz) {lo hi : Option Slot} {h a : Nat} (hh : bound hi L.length L.length = some h) (ha : bound lo 0 h = some a) :
  ∃ w, sliceS t sz x lo hi none = some (.val w) ∧ (Slot.val w).list? = some ((L.take h).drop a) := by
 have hall : (L.all (fun v => v.cells.length == sz) && Nat.blt 0 sz) = true := by
  rw [Bool.and_eq_true, List.all_eq_true]
  exact ⟨fun x hx => by simpa using hs x hx, by rw [Nat.blt_eq]; exact h0⟩
 have hv' := hv
 unfold Slot.list? at hv'
 split at hv'
 ·cases hv'
  have := Q8Y (by simp) hh
  simp only [List.length_nil, Nat.le_zero] at this
  subst this
  simp only [List.length_nil] at hh
  exact ⟨.nils, by simp only [sliceS, hk, hh, ha], by simp [Slot.list?]⟩
 ·cases hv'
  exact ⟨.sl ((L.take h).drop a), by simp only [sliceS, hk, Qih, hall, cond_true, hh, ha], rfl⟩
 ·cases hv'
  exact ⟨.sl ((L.take h).drop a), by simp only [sliceS, hk, Qhh, hall, cond_true, hh, ha], rfl⟩
 ·cases hv'
  exact ⟨.sl ((L.take h).drop a), by simp only [sliceS, hk, Qa6, hall, cond_true, hh, ha], rfl⟩
 ·cases hv'
theorem QaD {t : TI} {e : TypeId} (hk : t.k = .slice e) {v : AV} {L : List AV} (hv : (Slot.val v).list? = some L) {sz : Nat} (hs : ∀ x ∈ L, x.cells.length = sz) (h0 : 0 < sz) {lo hi : Option Slot} {h a : Nat} (hh : bound hi L.length L.length = some h) (ha : bound lo 0 h = some a) :
  ∃ w, sliceS t sz (.val v) lo hi none = some (.val w) ∧ (Slot.val w).list? = some ((L.take h).drop a) := Q8J hk hv hs h0 hh ha
theorem QjE {w a : AV} {l : List AV} (h : (Slot.val w).list? = some (a :: l)) : w = .sl (a :: l) := by
 unfold Slot.list? at h
 split at h
 ·cases h
 ·rename_i hx; cases hx; cases h; rfl
 ·rename_i hx; cases hx
 ·rename_i hx; cases hx
 ·cases h
theorem Q58 {k : IntKind} {d m n : Nat} (h : n ≤ m) : bound (some (.val (.int k (n : Int)))) d m = some n := by
 simp only [bound]
 rw [if_pos ⟨by omega, by omega⟩]; simp
end Go.Proofs.YtoahliipbclneaaGreat
namespace Go.Am
open Go
def tvar (n : Int) : Ty := .mk 1 n [] [] true
mutual
def ownTy : Ty → Ty
 | .mk k n s l _ => .mk k n s (ownTys l) true
def ownTys : List Ty → List Ty
 | [] => []
 | t :: l => ownTy t :: ownTys l
end
def ofTy (name : Str) (l : List Ty) : Ty := .mk 2 0 name (l.map ownTy) true
def fnTy (a b : Ty) : Ty := ofTy [45, 62] [a, b]
section
variable {σ : Type} (to : Int → σ → Ty × σ)
mutual
def chTy : Ty → σ → Ty × σ
 | .mk k n s l _, st => bif decide (k = 1) then to n st else (.mk k n s (chTys l st).1 true, (chTys l st).2)
def chTys : List Ty → σ → List Ty × σ
 | [], st => ([], st)
 | t :: l, st => ((chTy t st).1 :: (chTys l (chTy t st).2).1, (chTys l (chTy t st).2).2)
end
end
def toPut (l : List Ty) (n : Int) (u : Unit) : Ty × Unit := (if 0 ≤ n ∧ n < l.length then ownTy (l.getD n.toNat default) else tvar n, u)
def putTy (t : Ty) (l : List Ty) : Ty := (chTy (toPut l) t ()).1
def placeI (n : Int) : List Int → Nat → Option Nat
 | [], _ => none
 | m :: l, i => if n = m then some i else placeI n l (i + 1)
def toCanon (n : Int) (old : List Int) : Ty × List Int :=
 match placeI n old 0 with
 | some i => (tvar i, old)
 | none => (tvar old.length, old ++ [n])
def givenB (nm : Str) : Int × Int × Bool :=
 bif decide (nm = [105, 110, 116]) || decide (nm = [98, 111, 111, 108]) || decide (nm = [117, 110, 105, 116]) || decide (nm = [101, 120, 110]) then (0, 0, true) else
 bif decide (nm = [114, 101, 102]) then (1, 1, true) else bif decide (nm = [45, 62]) then (2, 2, true) else bif decide (nm = [42]) then (2, 8, true) else (0, 8, false)
def goodC (k n : Int) (nm : Str) (len : Int) (low : Bool) : Bool :=
 bif decide (k = 1) then decide (n ≥ 0) && decide (nm = []) && decide (len = 0)
 else bif decide (k = 2) then decide (n = 0) && decide (len ≥ (givenB nm).1) && decide (len ≤ (givenB nm).2.1) && ((givenB nm).2.2 || low)
 else false
def goodB (t : Ty) : Bool := goodC t.kind t.n t.name t.args.length (lowB t.name)
mutual
def allTy (p : Ty → Bool) : Ty → Bool
 | .mk k n s l b => p (.mk k n s l b) && allTys p l
def allTys (p : Ty → Bool) : List Ty → Bool
 | [] => true
 | t :: l => allTy p t && allTys p l
end
mutual
theorem Q6r : ∀ t : Ty, (ownTy t).size = t.size
 | .mk k n s l b => by simp only [ownTy, Ty.size, Q8D l]
theorem Q8D : ∀ l : List Ty, Ty.sizes (ownTys l) = Ty.sizes l
 | [] => rfl
 | t :: l => by simp only [ownTys, Ty.sizes, Q6r t, Q8D l]
end
theorem Q6s : ∀ l : List Ty, ownTys l = l.map ownTy
 | [] => rfl
 | t :: l => by rw [ownTys, Q6s l]; rfl
theorem Q7A (a : Int) : ∀ {l : List Ty} {t : Ty}, t ∈ l → ∀ n ∈ nodesTy a t, n ∈ nodesTys a l
 | x :: l, t, h, n, hn => by
   simp only [nodesTys, List.mem_append]
   rcases List.mem_cons.1 h with rfl | h
   ·exact .inl hn
   ·exact .inr (Q7A a h n hn)
def NamesTy (t : Ty) : Prop := ∀ n ∈ nodesTy 0 t, n.ok
theorem NamesTy.name {k n : Int} {s : Str} {l : List Ty} {b : Bool} (h : NamesTy (.mk k n s l b)) : s.length < 2^40 := h (.ty (.mk k n s l b) 0) (by simp only [nodesTy]; exact List.mem_cons_self)
theorem NamesTy.arg {k n : Int} {s : Str} {l : List Ty} {b : Bool} (h : NamesTy (.mk k n s l b)) {t : Ty} (ht : t ∈ l) : NamesTy t := fun nd hn => h nd (by simp only [nodesTy]; exact List.mem_cons_of_mem _ (Q7A 0 ht nd hn))
mutual
def WideTy : Ty → Prop
 | .mk _ _ _ l _ => l.length < 2^28 ∧ WideTys l
def WideTys : List Ty → Prop
 | [] => True
 | t :: l => WideTy t ∧ WideTys l
end
theorem WideTys.iff : ∀ {l : List Ty}, WideTys l ↔ ∀ t ∈ l, WideTy t
 | [] => by simp [WideTys]
 | t :: l => by simp only [WideTys, WideTys.iff (l := l), List.mem_cons, forall_eq_or_imp]
theorem WideTy.len {k n : Int} {s : Str} {l : List Ty} {b : Bool} (h : WideTy (.mk k n s l b)) : l.length < 2^28 := by simp only [WideTy] at h; exact h.1
theorem WideTy.arg {k n : Int} {s : Str} {l : List Ty} {b : Bool} (h : WideTy (.mk k n s l b)) {t : Ty} (ht : t ∈ l) : WideTy t := by simp only [WideTy] at h; exact WideTys.iff.1 h.2 t ht
theorem Q4q {k n : Int} {s : Str} {l : List Ty} {b : Bool} (h : l.length < 2^28) (g : ∀ t ∈ l, WideTy t) : WideTy (.mk k n s l b) := by simp only [WideTy]; exact ⟨h, WideTys.iff.2 g⟩
mutual
theorem Q2U : ∀ (t : Ty), t.size < 2^28 → WideTy t
 | .mk k n s l b, h => by
   simp only [Ty.size] at h
   have := Ty.len_sizes l
   simp only [WideTy]
   exact ⟨by omega, Q6T l (by omega)⟩
theorem Q6T : ∀ (l : List Ty), Ty.sizes l < 2^28 → WideTys l
 | [], _ => trivial
 | t :: l, h => by
   simp only [Ty.sizes] at h
   exact ⟨Q2U t (by omega), Q6T l (by omega)⟩
end
mutual
theorem Q52 : ∀ (t : Ty), WideTy t → WideTy (ownTy t)
 | .mk k n s l b, h => by
   simp only [ownTy, WideTy] at h ⊢
   exact ⟨by rw [Q6s, List.length_map]; exact h.1, QcC l h.2⟩
theorem QcC : ∀ (l : List Ty), WideTys l → WideTys (ownTys l)
 | [], _ => trivial
 | t :: l, h => ⟨Q52 t h.1, QcC l h.2⟩
end
theorem QbN {σ : Type} (to : Int → σ → Ty × σ) : ∀ (l : List Ty) (st : σ), (chTys to l st).1.length = l.length
 | [], _ => rfl
 | t :: l, st => by simp only [chTys, List.length_cons, QbN to l]
section
variable {σ : Type} (to : Int → σ → Ty × σ)
mutual
theorem QfF (h : ∀ n st, WideTy (to n st).1) : ∀ (t : Ty) (st : σ), WideTy t → WideTy (chTy to t st).1
 | .mk k n s l b, st, g => by
   simp only [chTy]
   cases decide (k = 1) with
   | true => exact h n st
   | false =>
     simp only [cond_false, WideTy] at g ⊢
     exact ⟨by rw [QbN]; exact g.1, Qep h l st g.2⟩
theorem Qep (h : ∀ n st, WideTy (to n st).1) : ∀ (l : List Ty) (st : σ), WideTys l → WideTys (chTys to l st).1
 | [], _, _ => trivial
 | t :: l, st, g => ⟨QfF h t st g.1, Qep h l _ g.2⟩
end
end
theorem QcB (n : Int) : WideTy (tvar n) := by simp only [tvar, WideTy, WideTys]; decide
theorem Qgk (l : List Ty) (g : ∀ t ∈ l, WideTy t) (n : Int) (u : Unit) : WideTy (toPut l n u).1 := by
 simp only [toPut]
 split
 ·rename_i hn
  have hm : n.toNat < l.length := by omega
  rw [List.getD_eq_getElem?_getD, List.getElem?_eq_getElem hm, Option.getD_some]
  exact Q52 _ (g _ (List.getElem_mem hm))
 ·exact QcB n
theorem QiP (t : Ty) (l : List Ty) (h : WideTy t) (g : ∀ t ∈ l, WideTy t) : WideTy (putTy t l) := QfF (toPut l) (Qgk l g) t () h
mutual
def preTy : Ty → List Ty
 | .mk k n s l b => .mk k n s l b :: preTys l
def preTys : List Ty → List Ty
 | [] => []
 | t :: l => preTy t ++ preTys l
end
mutual
theorem ZK (a : Int) : ∀ t : Ty, nodesTy a t = (preTy t).map fun u => TNode.ty u a
 | .mk k n s l b => by simp only [nodesTy, preTy, List.map_cons, Q4H a l]
theorem Q4H (a : Int) : ∀ l : List Ty, nodesTys a l = (preTys l).map fun u => TNode.ty u a
 | [] => rfl
 | t :: l => by simp only [nodesTys, preTys, List.map_append, ZK a t, Q4H a l]
end
mutual
theorem Qhq : ∀ t : Ty, (preTy t).length = t.size
 | .mk k n s l b => by simp only [preTy, Ty.size, List.length_cons, Qan l]
theorem Qan : ∀ l : List Ty, (preTys l).length = Ty.sizes l
 | [] => rfl
 | t :: l => by simp only [preTys, Ty.sizes, List.length_append, Qhq t, Qan l]
end
mutual
theorem QgF (p : Ty → Bool) : ∀ t : Ty, allTy p t = (preTy t).all p
 | .mk k n s l b => by simp only [allTy, preTy, List.all_cons, Q9A p l]
theorem Q9A (p : Ty → Bool) : ∀ l : List Ty, allTys p l = (preTys l).all p
 | [] => rfl
 | t :: l => by simp only [allTys, preTys, List.all_append, QgF p t, Q9A p l]
end
theorem NamesTy.pre {t : Ty} (h : NamesTy t) : ∀ u ∈ preTy t, u.name.length < 2^40 := fun u hu => by
 have := h (.ty u 0) (by rw [ZK]; exact List.mem_map.2 ⟨u, hu, rfl⟩)
 exact this
def placeR (n : Int) (l : List Int) : Int := match placeI n l 0 with | some i => i | none => -1
def varsL : List Ty → List Int → List Int
 | [], acc => acc
 | u :: r, acc => varsL r (bif decide (u.kind = 1) && decide (placeR u.n acc < 0) then acc ++ [u.n] else acc)
mutual
def putR (l : List Ty) : Ty → Ty
 | .mk k n s a b => bif decide (k = 1) then (if 0 ≤ n ∧ n < l.length then ownTy (l.getD n.toNat default) else ownTy (.mk k n s a b)) else .mk k n s (putRs l a) true
def putRs (l : List Ty) : List Ty → List Ty
 | [] => []
 | t :: r => putR l t :: putRs l r
end
mutual
def renR (v : List Int) : Ty → Ty
 | .mk k n s a _ => bif decide (k = 1) then tvar (placeR n v) else .mk k n s (renRs v a) true
def renRs (v : List Int) : List Ty → List Ty
 | [] => []
 | t :: r => renR v t :: renRs v r
end
end Go.Am
namespace Go.Am
open Go
mutual
def eqTy : Ty → Ty → Bool
 | .mk k n s l _, .mk k' n' s' l' _ => decide (k = k') && decide (n = n') && decide (s = s') && eqTys l l'
def eqTys : List Ty → List Ty → Bool
 | [], [] => true
 | t :: l, u :: m => eqTy t u && eqTys l m
 | _, _ => false
end
def atB (w : Bool) (a b : Int) : Bool := !w || decide (a = b)
mutual
def eqPat (w : Bool) : Pat → Pat → Bool
 | .mk k a s n l _, .mk k' a' s' n' l' _ => decide (k = k') && decide (n = n') && decide (s = s') && atB w a a' && eqPats w l l'
def eqPats (w : Bool) : List Pat → List Pat → Bool
 | [], [] => true
 | t :: l, u :: m => eqPat w t u && eqPats w l m
 | _, _ => false
end
def eqCon (w : Bool) (c d : Con) : Bool := decide (c.name = d.name) && decide (c.has = d.has) && atB w c.at_ d.at_ && eqTy c.arg d.arg
def eqCons (w : Bool) : List Con → List Con → Bool
 | [], [] => true
 | t :: l, u :: m => eqCon w t u && eqCons w l m
 | _, _ => false
mutual
def eqExp (w : Bool) : Exp → Exp → Bool
 | .mk k a s n l _ c _ d _, .mk k' a' s' n' l' _ c' _ d' _ => decide (k = k') && decide (n = n') && decide (s = s') && atB w a a' && eqExps w l l' && eqCases w c c' && eqDecs w d d'
def eqExps (w : Bool) : List Exp → List Exp → Bool
 | [], [] => true
 | t :: l, u :: m => eqExp w t u && eqExps w l m
 | _, _ => false
def eqCase (w : Bool) : Case → Case → Bool
 | .mk p e, .mk p' e' => eqPat w p p' && eqExp w e e'
def eqCases (w : Bool) : List Case → List Case → Bool
 | [], [] => true
 | t :: l, u :: m => eqCase w t u && eqCases w l m
 | _, _ => false
def eqDec (w : Bool) : Dec → Dec → Bool
 | .mk k a s p l _ c _ f _, .mk k' a' s' p' l' _ c' _ f' _ => decide (k = k') && decide (s = s') && decide (p = p') && atB w a a' && eqCases w c c' && eqFuns w f f' && eqCons w l l'
def eqDecs (w : Bool) : List Dec → List Dec → Bool
 | [], [] => true
 | t :: l, u :: m => eqDec w t u && eqDecs w l m
 | _, _ => false
def eqFun (w : Bool) : Fun → Fun → Bool
 | .mk s a c, .mk s' a' c' => decide (s = s') && atB w a a' && eqCase w c c'
def eqFuns (w : Bool) : List Fun → List Fun → Bool
 | [], [] => true
 | t :: l, u :: m => eqFun w t u && eqFuns w l m
 | _, _ => false
end
theorem Q7l : ∀ l m : List Ty, l.length ≠ m.length → eqTys l m = false
 | [], [], h => absurd rfl h
 | [], _ :: _, _ => by simp only [eqTys]
 | _ :: _, [], _ => by simp only [eqTys]
 | t :: l, u :: m, h => by rw [eqTys, Q7l l m (by simpa using h), Bool.and_false]
end Go.Am
namespace Go.Proofs.YtoahliipbclneaaGreat
open Go Go.Am
set_option linter.unusedVariables false
theorem Q5r (n : Int) (s : St) : cw (.f Q2A) [.int .u8 n] s = some (.ret (.val (.bool (smallB n))), s) := by
 rw [Qd7]; simp only [go_sem]; rfl
theorem Q5p (n : Int) (s : St) : cw (.f Q2w) [.int .u8 n] s = some (.ret (.val (.bool (greatB n))), s) := by
 rw [Qd3]; simp only [go_sem]; rfl
theorem Q5q (n : Int) (s : St) : cw (.f Q2x) [.int .i64 n] s = some (.ret (.val (.bool (isIntB n))), s) := by
 rw [Qd4]; simp only [go_sem, Int.reduceNeg]; rfl
theorem Qd6 (l : Str) (pre : Str) : ∀ (suf : Str) (s : St), pre ++ suf = l → l.length < 2^62 → Q21 (.val (.str l)) (.val (.int .i64 pre.length)) s = some (.ret (.val (.bool (restAll suf && decide (l.length ≤ 32)))), s) := by
 intro suf
 induction suf generalizing pre with
 | nil =>
   intro s h hl
   rw [List.append_nil] at h
   subst h
   rw [Q60]; simp only [Qdc, Qda, Q6l Qw, Q4f, Q69, Q4g]
   rw [Qbd (by simp)]
   simp only [go_sem]
   simp [restAll]
   omega
 | cons c suf ih =>
   intro s h hl
   have hc : l[pre.length]? = some c := by rw [← h]; simp
   have hlt : pre.length < l.length := by rw [← h]; simp
   have := ih (pre ++ [c]) s (by simp [h]) hl
   rw [Q60]
   simp only [Qdc, Qda, Q6l Qw, Q4f, Q69, Q4g]
   rw [Qbe (by simpa using hlt), Q6h Qw hc]
   simp only [go_sem, Q5r, Q5p]
   rw [wrap64 (by omega) (by omega)]
   have e : (pre.length : Int) + 1 = ((pre ++ [c]).length : Int) := by simp
   rw [e, this]
   simp only [go_sem, restAll, List.all_cons, unrestB]
   cases (!smallB c.toNat && !greatB c.toNat && (decide ((c.toNat : Int) < 48) || decide ((c.toNat : Int) > 57)) && !decide ((c.toNat : Int) = 39)) <;> simp
theorem Q6S (l : Str) (s : St) (h0 : l ≠ []) (hl : l.length < 2^62) : cw (.f Q2z) [.str l] s = some (.ret (.val (.bool (runB l))), s) := by
 rw [Qf3]
 cases l with
 | nil => exact absurd rfl h0
 | cons c l => exact Qd6 (c :: l) [c] l s rfl hl
theorem Q5Y (a b : Str) (s : St) (h : a.length < 4294967281) : cw (.f Q1v) [.str a, .str b] s = some (.ret (.val (.bool (Go.Lib.contains a b))), s) := by
 have e : C.ext Q1v = some extContains := by kernel_rfl
 rw [cw, Q5]; unfold callR; rw [e]; simp [extContains, h]
theorem Q45 (l : Str) (s : St) (hl : l.length < 2^62) : cw (.f Q1F) [.str l] s = some (.ret (.val (.bool (capB l))), s) := by
 rw [QaI]
 by_cases h0 : l = []
 ·subst h0; simp only [go_sem]; rfl
 ·simp only [go_sem, h0, Q5p, not_false_eq_true, Q5D Qw h0, Q6S l s h0 hl]
  simp [capB, h0, headB]
theorem Q2p (l : Str) (s : St) (hl : l.length < 2^62) : cw (.f Q08) [.str l] s = some (.ret (.val (.bool (conB l))), s) := by
 rw [Q6V]
 simp only [go_sem, Q45 l s hl]
 rfl
theorem Q1f (l : Str) (s : St) (hl : l.length < 2^62) : cw (.f Q0Z) [.str l] s = some (.ret (.val (.bool (lowB l))), s) := by
 rw [Qf2]
 by_cases h0 : l = []
 ·subst h0; simp only [go_sem]; rfl
 ·have hk : Q9v = wordsS := by decide +kernel
  have hc := fun b s => Q5Y wordsS b s (by decide +kernel)
  simp only [go_sem, h0, Q5r, not_false_eq_true, Q5D Qw h0, Q6S l s h0 hl, QbL (C.ti Q2) [32] l (by simp; omega), QbL (C.ti Q2) (32 :: l) [32] (by simp; omega), hk, hc]
  simp [lowB, h0, headB, Bool.and_assoc]
end Go.Proofs.YtoahliipbclneaaGreat
namespace Go.Proofs.YtoahliipbclneaaGreat
open Go Go.Am
set_option linter.unusedVariables false
set_option maxRecDepth 4000
theorem Q8b (t : Ty) (s : St) (hn : t.name.length < 2^62) : cw (.f Q0C) [t.enc] s = some (.ret (.val (.int .i64 (wrongTyB t))), s) := by
 obtain ⟨k, n, nm, l, nl⟩ := t
 rw [QaO]
 simp only [go_sem, Nat.reduceAdd, Nat.reduceLeDiff, Q7S, Q7T, Q1f nm _ hn]
 show _ = some (Out.ret (.val (.int .i64 (wrongTyC k n nm l.length))), s)
 delta wrongTyC tyLM
 generalize decide (nm = [105, 110, 116]) = x1
 generalize decide (nm = [98, 111, 111, 108]) = x2
 generalize decide (nm = [117, 110, 105, 116]) = x3
 generalize decide (nm = [101, 120, 110]) = x4
 generalize decide (nm = [114, 101, 102]) = x5
 generalize decide (nm = [45, 62]) = x6
 generalize decide (nm = [42]) = x7
 generalize lowB nm = x8
 cases x1 <;> cases x2 <;> cases x3 <;> cases x4 <;> cases x5 <;> cases x6 <;> cases x7 <;> cases x8 <;> rfl
theorem Q7R (t : Pat) (s : St) (hn : t.name.length < 2^62) : cw (.f Q1t) [t.enc] s = some (.ret (.val (.int .i64 (wrongPatB t))), s) := by
 obtain ⟨k, a, nm, n, l, nl⟩ := t
 rw [Q9t]
 have hk : k = 1 ∨ k = 2 ∨ k = 3 ∨ k = 4 ∨ k = 5 ∨ k = 6 ∨ (k < 1 ∨ k > 6) := by omega
 rcases hk with rfl | rfl | rfl | rfl | rfl | rfl | hk
 rotate_left 6
 ·simp only [go_sem, Nat.reduceAdd, decide_eq_false (show ¬ k = 1 by omega), decide_eq_false (show ¬ k = 2 by omega), decide_eq_false (show ¬ k = 3 by omega), decide_eq_false (show ¬ k = 4 by omega), decide_eq_false (show ¬ k = 5 by omega), decide_eq_false (show ¬ k = 6 by omega)]
  have : (decide (k < 1) || decide (k > 6)) = true := by simpa using hk
  have e : wrongPatB (Pat.mk k a nm n l nl) = 29 := by
   show (bif (decide (k < 1) || decide (k > 6)) then (29 : Int) else _) = 29
   rw [this]; rfl
  rw [e]
 all_goals
  simp only [go_sem, Int.reduceEq, Int.reduceGT, Int.reduceLT, Nat.reduceAdd, Nat.reduceLeDiff, Q6Z, Q1f nm _ hn, Q2p nm _ hn, Q5q, wrongPatB, patLM, Pat.kind, Pat.name, Pat.n, Pat.kids]
  try rfl
theorem Q7O (c : Con) (s : St) (hn : c.name.length < 2^62) : cw (.f Q2B) [c.enc] s = some (.ret (.val (.int .i64 (wrongConB c))), s) := by
 rw [Q9r]
 simp only [go_sem, Nat.reduceAdd, Nat.reduceLeDiff, Con.cells, Ty.cells_eq, Q45 _ _ hn]
 rfl
theorem Q7Q (e : Exp) (s : St) (hn : e.name.length < 2^62) : cw (.f Q2C) [e.enc] s = some (.ret (.val (.int .i64 (wrongExpB e))), s) := by
 obtain ⟨k, a, nm, n, l, lb, c, cb, d, db⟩ := e
 rw [Q9s]
 have hk : k = 1 ∨ k = 2 ∨ k = 3 ∨ k = 4 ∨ k = 5 ∨ k = 6 ∨ k = 7 ∨ k = 8 ∨ k = 9 ∨ k = 10 ∨ k = 11 ∨ k = 12 ∨ k = 13 ∨ k = 14 ∨ k = 15 ∨ k = 16 ∨ k = 17 ∨ k = 18 ∨ k = 19 ∨ k = 20 ∨ (k < 1 ∨ k > 20) := by omega
 rcases hk with rfl | rfl | rfl | rfl | rfl | rfl | rfl | rfl | rfl | rfl | rfl | rfl | rfl | rfl | rfl | rfl | rfl | rfl | rfl | rfl | hk
 rotate_left 20
 ·simp only [go_sem, Nat.reduceAdd, Nat.reduceLeDiff, Q5Z, decide_eq_false (show ¬ k = 1 by omega), decide_eq_false (show ¬ k = 2 by omega), decide_eq_false (show ¬ k = 3 by omega), decide_eq_false (show ¬ k = 4 by omega), decide_eq_false (show ¬ k = 5 by omega), decide_eq_false (show ¬ k = 6 by omega), decide_eq_false (show ¬ k = 7 by omega), decide_eq_false (show ¬ k = 8 by omega), decide_eq_false (show ¬ k = 9 by omega), decide_eq_false (show ¬ k = 10 by omega), decide_eq_false (show ¬ k = 11 by omega), decide_eq_false (show ¬ k = 12 by omega), decide_eq_false (show ¬ k = 13 by omega), decide_eq_false (show ¬ k = 14 by omega), decide_eq_false (show ¬ k = 15 by omega), decide_eq_false (show ¬ k = 16 by omega), decide_eq_false (show ¬ k = 17 by omega), decide_eq_false (show ¬ k = 18 by omega), decide_eq_false (show ¬ k = 19 by omega), decide_eq_false (show ¬ k = 20 by omega)]
  have h : (decide (k < 1) || decide (k > 20)) = true := by simpa using hk
  have e : wrongExpB (Exp.mk k a nm n l lb c cb d db) = 29 := by
   show (bif (decide (k < 1) || decide (k > 20) || _ || _ || _ || _ || _) then (29 : Int) else _) = 29
   rw [h]; rfl
  rw [e]
 all_goals
  simp only [go_sem, Int.reduceEq, Int.reduceGT, Int.reduceLT, Nat.reduceAdd, Nat.reduceLeDiff, Q5Z, Q1f nm _ hn, Q2p nm _ hn, Q5q, wrongExpB, expLM, Exp.kind, Exp.name, Exp.n, Exp.kids, Exp.cases, Exp.decs]
  try rfl
theorem Q7P (d : Dec) (inn : Bool) (a : Int) (r : List AV) (s : St) (hn : d.name.length < 2^62) : cw (.f Zs) [.agg [.cp (d.cells ++ r), .bool inn, .nilp, .nilp, .nilp, .nilp, .nilp, .int .i64 a]] s = some (.ret (.val (.int .i64 (wrongDecB d inn))), s) := by
 obtain ⟨k, at_, nm, p, l, nb, c, cb, f, fb⟩ := d
 rw [Q5H]
 simp only [go_sem, Nat.reduceAdd, Q1f nm _ hn, Q4l]
 show _ = some (Out.ret (.val (.int .i64 (wrongDecC k nm p l.length c.length f.length inn))), s)
 delta wrongDecC
 generalize decide (k = 1) = x1
 generalize decide (k = 2) = x2
 generalize decide (k = 3) = x3
 generalize decide (k = 4) = x4
 cases x1 <;> cases x2 <;> cases x3 <;> cases x4 <;> rfl
end Go.Proofs.YtoahliipbclneaaGreat
namespace Go.Proofs.YtoahliipbclneaaGreat
open Go Go.Am
set_option linter.unusedVariables false
set_option maxRecDepth 4000
theorem Q6w (nd : TNode) (r : List AV) (s : St) : cw (.f Q1Q) [nd.thing r] s = some (.ret (.val (.bool nd.isNode)), s) := by
 rw [Q7N]
 cases nd <;> simp only [go_sem, Nat.reduceAdd, TNode.thing, TNode.isNode]
theorem Q61 (nd : TNode) (r : List AV) (s : St) (h : nd.name.length < 2^40) : cw (.f Q09) [nd.thing r] s = some (.ret (.val nd.bad.enc), s) := by
 rw [Q6W]
 have key : ∀ (e a : Int) (nm : Str) (v : List Slot) (s : St), v.getD 7 .und = .val (.int .i64 a) → v.length = 8 → Qx v [.val (.int .i64 0), .val (.int .i64 0), .val (.str [])] (.val (.int .i64 e)) (.val (.str nm)) s = some (.ret (.val (mkBad e a nm).enc), s) := by
  intro e a nm v s hv hl
  have hd : (v.drop 7).take 1 = [.val (.int .i64 a)] := by
   match v, hl with
   | [_, _, _, _, _, _, _, x], _ => simpa using hv
  rw [Q5I]
  by_cases h0 : e = 0
  ·subst h0
   simp only [go_sem, Int.reduceEq, Nat.reduceAdd, Nat.reduceLeDiff, hd]
   rfl
  ·by_cases h8 : e = 8
   ·subst h8
    simp only [go_sem, Int.reduceEq, Nat.reduceAdd, Nat.reduceLeDiff, hd]
    rfl
   ·simp only [go_sem, Nat.reduceAdd, Nat.reduceLeDiff, hd, decide_eq_false h0, decide_eq_false h8, mkBad]
    rfl
 cases nd with
 | dec inn d =>
   have hn : d.name.length < 2^62 := by simp only [TNode.name] at h; omega
   have hw := fun s => Q7P d inn d.at_ r s hn
   obtain ⟨k, a, nm, p, l, nb, c, cb, f, fb⟩ := d
   simp only [go_sem, Exp.enc, Pat.enc, Ty.enc, Dec.enc] at hw
   simp only [go_sem, Nat.reduceAdd, Nat.reduceLeDiff, TNode.thing, hw]
   exact key _ _ _ _ _ rfl rfl
 | exp e =>
   have hn : e.name.length < 2^62 := by simp only [TNode.name] at h; omega
   have hw := fun s => Q7Q e s hn
   obtain ⟨k, a, nm, n, l, lb, c, cb, d, db⟩ := e
   simp only [go_sem, Exp.enc, Pat.enc, Ty.enc, Dec.enc] at hw
   simp only [go_sem, Nat.reduceAdd, Nat.reduceLeDiff, TNode.thing, hw]
   exact key _ _ _ _ _ rfl rfl
 | pat e =>
   have hn : e.name.length < 2^62 := by simp only [TNode.name] at h; omega
   have hw := fun s => Q7R e s hn
   obtain ⟨k, a, nm, n, l, lb⟩ := e
   simp only [go_sem, Exp.enc, Pat.enc, Ty.enc, Dec.enc] at hw
   simp only [go_sem, Nat.reduceAdd, Nat.reduceLeDiff, TNode.thing, hw]
   exact key _ _ _ _ _ rfl rfl
 | ty e a =>
   have hn : e.name.length < 2^62 := by simp only [TNode.name] at h; omega
   have hw := fun s => Q8b e s hn
   obtain ⟨k, n, nm, l, lb⟩ := e
   simp only [go_sem, Exp.enc, Pat.enc, Ty.enc, Dec.enc] at hw
   simp only [go_sem, Nat.reduceAdd, Nat.reduceLeDiff, TNode.thing, hw]
   exact key _ _ _ _ _ rfl rfl
 | fn f =>
   have hn : f.name.length < 2^62 := by simp only [TNode.name] at h; omega
   have hw := fun s => Q1f f.name s hn
   obtain ⟨nm, a, c⟩ := f
   simp only [Fun.name] at hw
   have k0 := fun v s h1 h2 => key 0 a nm v s h1 h2
   have k8 := fun v s h1 h2 => key 8 a nm v s h1 h2
   simp only [go_sem, Nat.reduceAdd, Nat.reduceLeDiff, TNode.thing, hw, Fun.at_]
   show _ = some (Out.ret (.val (mkBad (bif !lowB nm then 8 else 0) a nm).enc), s)
   cases lowB nm
   ·simp only [go_sem]; exact key 8 a nm _ s rfl rfl
   ·simp only [go_sem]; exact key 0 a nm _ s rfl rfl
 | con c =>
   have hn : c.name.length < 2^62 := by simp only [TNode.name] at h; omega
   have hw := fun s => Q7O c s hn
   obtain ⟨nm, a, hs, arg⟩ := c
   simp only [go_sem, Con.enc, Con.cells] at hw
   simp only [go_sem, Nat.reduceAdd, Nat.reduceLeDiff, TNode.thing, Con.cells, hw]
   exact key _ _ _ _ _ rfl rfl
end Go.Proofs.YtoahliipbclneaaGreat
namespace Go.Proofs.YtoahliipbclneaaGreat
open Go Go.Am
set_option linter.unusedVariables false
set_option maxRecDepth 4000
theorem Q4W (L : List Ty) (x : Slot) (hx : x.list? = some (L.map Ty.enc)) (hl : L.length < 2^40) : ∀ (suf pre : List Ty) (n : Int) (s : St) (i : Nat), pre ++ suf = L → i = pre.length → (∀ t ∈ suf, ∀ s, cw (.f Q00) [t.enc] s = some (.ret (.val (.int .i64 (deepTy t))), s)) → 0 ≤ n → n < 2^40 → Ty.sizes suf < 2^40 →
  Q0U (.val (.int .i64 n)) x (.val (.int .i64 L.length)) (.val (.int .i64 i)) s = some (.ret (.val (.int .i64 (deepTys suf n + 1))), s)
 | [], pre, n, s, i, h, hi, H, h0, h1, h2 => by
   subst hi
   rw [Q4a]; simp only [go_sem, Q9 (by simpa using h)]
   rw [wrap64 (by omega) (by omega)]; rfl
 | t :: suf, pre, n, s, i, h, hi, H, h0, h1, h2 => by
   subst hi
   obtain ⟨f1, f2, f3⟩ := Q8 hx h (by omega) (Ty.cells_len t) (by decide)
   have ht := Q2k t
   have hm := QG n (deepTy t) (2^40 - 1)
   have hn := QF n (deepTy t)
   simp only [Ty.sizes] at h2
   rw [Q4a]; simp only [go_sem, Nat.reduceAdd, Nat.reduceLeDiff, f1, f2, f3, H t (List.mem_cons_self)]
   exact Q4W L x hx hl suf (pre ++ [t]) _ s _ (by simpa using h) (by simp) (fun u hu => H u (List.mem_cons_of_mem _ hu)) (by omega) (by omega) (by omega)
theorem Q4X : ∀ (m : Nat) (t : Ty) (s : St), t.size ≤ m → t.size < 2^40 → cw (.f Q00) [t.enc] s = some (.ret (.val (.int .i64 (deepTy t))), s)
 | 0, .mk _ _ _ _ _, _, h, _ => by simp only [Ty.size] at h; omega
 | m + 1, .mk k n nm l nl, s, h, h' => by
   simp only [Ty.size] at h h'
   have hl := Ty.len_sizes l
   rw [QbD]; simp only [go_sem, Nat.reduceAdd, Nat.reduceLeDiff, Ty.enc]
   exact Q4W l _ (by simp only [go_sem]) (by omega) l [] 0 s 0 rfl rfl (fun u hu s => by have := Ty.mem_sizes hu; exact Q4X m u s (by omega) (by omega)) (by omega) (by omega) (by omega)
theorem Q48 (L : List Pat) (x : Slot) (hx : x.list? = some (L.map Pat.enc)) (hl : L.length < 2^40) : ∀ (suf pre : List Pat) (n : Int) (s : St) (i : Nat), pre ++ suf = L → i = pre.length → (∀ t ∈ suf, ∀ s, cw (.f ZM) [t.enc] s = some (.ret (.val (.int .i64 (deepPat t))), s)) → 0 ≤ n → n < 2^40 → Pat.sizes suf < 2^40 →
  Q0k (.val (.int .i64 n)) x (.val (.int .i64 L.length)) (.val (.int .i64 i)) s = some (.ret (.val (.int .i64 (deepPats suf n + 1))), s)
 | [], pre, n, s, i, h, hi, H, h0, h1, h2 => by
   subst hi
   rw [Q3F]; simp only [go_sem, Q9 (by simpa using h)]
   rw [wrap64 (by omega) (by omega)]; rfl
 | t :: suf, pre, n, s, i, h, hi, H, h0, h1, h2 => by
   subst hi
   obtain ⟨f1, f2, f3⟩ := Q8 hx h (by omega) (Pat.cells_len t) (by decide)
   have ht := ZG t
   have hm := QG n (deepPat t) (2^40 - 1)
   have hn := QF n (deepPat t)
   simp only [Pat.sizes] at h2
   rw [Q3F]; simp only [go_sem, Nat.reduceAdd, Nat.reduceLeDiff, f1, f2, f3, H t (List.mem_cons_self)]
   exact Q48 L x hx hl suf (pre ++ [t]) _ s _ (by simpa using h) (by simp) (fun u hu => H u (List.mem_cons_of_mem _ hu)) (by omega) (by omega) (by omega)
theorem Q49 : ∀ (m : Nat) (t : Pat) (s : St), t.size ≤ m → t.size < 2^40 → cw (.f ZM) [t.enc] s = some (.ret (.val (.int .i64 (deepPat t))), s)
 | 0, .mk _ _ _ _ _ _, _, h, _ => by simp only [Pat.size] at h; omega
 | m + 1, .mk k a nm n l nl, s, h, h' => by
   simp only [Pat.size] at h h'
   have hl := Pat.len_sizes l
   rw [QaL]; simp only [go_sem, Nat.reduceAdd, Nat.reduceLeDiff, Pat.enc]
   exact Q48 l _ (by simp only [go_sem]) (by omega) l [] 0 s 0 rfl rfl (fun u hu s => by have := Pat.mem_sizes hu; exact Q49 m u s (by omega) (by omega)) (by omega) (by omega) (by omega)
def deepExpOK (t : Exp) : Prop := ∀ s, cw (.f Q0B) [t.enc] s = some (.ret (.val (.int .i64 (deepExp t))), s)
def deepCasesOK (l : List Case) : Prop := ∀ (v : AV) (s : St), (Slot.val v).list? = some (l.map Case.enc) → cw (.f Z3) [v] s = some (.ret (.val (.int .i64 (deepCases l 0))), s)
def deepDecsOK (l : List Dec) : Prop := ∀ (v : AV) (s : St), (Slot.val v).list? = some (l.map Dec.enc) → cw (.f QW) [v] s = some (.ret (.val (.int .i64 (deepDecs l 0))), s)
theorem Q47 (L : List Exp) (x : Slot) (hx : x.list? = some (L.map Exp.enc)) (hl : L.length < 2^40) : ∀ (suf pre : List Exp) (n : Int) (s : St) (i : Nat), pre ++ suf = L → i = pre.length → (∀ t ∈ suf, deepExpOK t) → 0 ≤ n → n < 2^40 → Exp.sizes suf < 2^40 →
  Q0j (.val (.int .i64 n)) x (.val (.int .i64 L.length)) (.val (.int .i64 i)) s = some (.ret (.val (.int .i64 (deepExps suf n + 1))), s)
 | [], pre, n, s, i, h, hi, H, h0, h1, h2 => by
   subst hi
   rw [Q3E]; simp only [go_sem, Q9 (by simpa using h)]
   rw [wrap64 (by omega) (by omega)]; rfl
 | t :: suf, pre, n, s, i, h, hi, H, h0, h1, h2 => by
   subst hi
   obtain ⟨f1, f2, f3⟩ := Q8 hx h (by omega) (Exp.cells_len t) (by decide)
   have ht := ZF t
   have hm := QG n (deepExp t) (2^40 - 1)
   have hn := QF n (deepExp t)
   simp only [Exp.sizes] at h2
   rw [Q3E]; simp only [go_sem, Nat.reduceAdd, Nat.reduceLeDiff, f1, f2, f3, H t (List.mem_cons_self) s]
   exact Q47 L x hx hl suf (pre ++ [t]) _ s _ (by simpa using h) (by simp) (fun u hu => H u (List.mem_cons_of_mem _ hu)) (by omega) (by omega) (by omega)
theorem Q1q (L : List Case) (x : Slot) (hx : x.list? = some (L.map Case.enc)) (hl : L.length < 2^40) : ∀ (suf pre : List Case) (n : Int) (s : St) (i : Nat), pre ++ suf = L → i = pre.length → (∀ t ∈ suf, deepExpOK t.exp) → 0 ≤ n → n < 2^40 → Case.sizes suf < 2^40 →
  ZB (.val (.int .i64 n)) x (.val (.int .i64 L.length)) (.val (.int .i64 i)) s = some (.ret (.val (.int .i64 (deepCases suf n))), s)
 | [], pre, n, s, i, h, hi, H, h0, h1, h2 => by
   subst hi
   rw [Q2S]; simp only [go_sem, Q9 (by simpa using h)]; rfl
 | .mk p e :: suf, pre, n, s, i, h, hi, H, h0, h1, h2 => by
   subst hi
   obtain ⟨f1, f2, f3⟩ := Q8 hx h (by omega) (Case.cells_len (.mk p e)) (by decide)
   have ht := ZF e
   have hp := ZG p
   simp only [Case.sizes, Case.size] at h2
   have h4 := QF n (deepPat p)
   have h5 := QF (maxI n (deepPat p)) (deepExp e)
   have h6 := QG n (deepPat p) (2^40 - 1) (by omega) (by omega)
   have h7 := QG (maxI n (deepPat p)) (deepExp e) (2^40 - 1) (by omega) (by omega)
   have He : deepExpOK e := H (.mk p e) (List.mem_cons_self)
   rw [Q2S]; simp only [go_sem, Nat.reduceAdd, Nat.reduceLeDiff, Nat.reduceSub, f1, f2, f3, Q49 _ p _ (Nat.le_refl _) (show p.size < 2^40 by omega), He s]
   exact Q1q L x hx hl suf (pre ++ [.mk p e]) _ s _ (by simpa using h) (by simp) (fun u hu => H u (List.mem_cons_of_mem _ hu)) (by omega) (by omega) (by omega)
theorem Q0T (L : List Con) (x : Slot) (hx : x.list? = some (L.map Con.enc)) (hl : L.length < 2^40) (y1 x11 x12 : Slot) (n0 : Int) (j : Nat) : ∀ (suf pre : List Con) (n : Int) (s : St) (i : Nat), pre ++ suf = L → i = pre.length → 0 ≤ n → n < 2^40 → Con.sizes suf < 2^40 → j < 2^40 →
  Zk (.val (.int .i64 n0)) (.val (.int .i64 n)) x11 x12 (.val (.int .i64 j)) x (.val (.int .i64 L.length)) (.val (.int .i64 i)) s = Z4 (.val (.int .i64 (maxI n0 (deepCons suf n + 1)))) x11 x12 (.val (.int .i64 (j + 1 : Nat))) s
 | [], pre, n, s, i, h, hi, h0, h1, h2, hj => by
   subst hi
   rw [Q35]; simp only [go_sem, Q9 (by simpa using h)]
   rw [wrap64 (n := n + 1) (by omega) (by omega), wrap64 (by omega) (by omega)]; rfl
 | c :: suf, pre, n, s, i, h, hi, h0, h1, h2, hj => by
   subst hi
   obtain ⟨f1, f2, f3⟩ := Q8 hx h (by omega) (Con.cells_len c) (by decide)
   have ht := Q2k c.arg
   simp only [Con.sizes, Con.size] at h2
   have hm := QG n (deepTy c.arg) (2^40 - 1)
   have hn := QF n (deepTy c.arg)
   obtain ⟨nm, a, hs, arg⟩ := c
   dsimp only at ht hm hn h2
   rw [Q35]; simp only [go_sem, Nat.reduceAdd, Nat.reduceLeDiff, f1, f2, f3, Con.cells]
   cases hs with
   | false =>
     simp only [go_sem]
     exact Q0T L x hx hl y1 x11 x12 n0 j suf (pre ++ [_]) n s _ (by simpa using h) (by simp) (by omega) (by omega) (by omega) hj
   | true =>
     simp only [go_sem, Q4X _ arg _ (Nat.le_refl _) (show arg.size < 2^40 by omega)]
     exact Q0T L x hx hl y1 x11 x12 n0 j suf (pre ++ [_]) _ s _ (by simpa using h) (by simp) (by omega) (by omega) (by omega) hj
theorem Q2q (L : List Fun) (x : Slot) (hx : x.list? = some (L.map Fun.enc)) (hl : L.length < 2^40) (d : Dec) (x11 x12 : Slot) (n0 : Int) (j : Nat) (hd : Con.sizes d.cons < 2^40) : ∀ (suf pre : List Fun) (n : Int) (s : St) (i : Nat), pre ++ suf = L → i = pre.length → (∀ t ∈ suf, deepCasesOK [t.case]) → 0 ≤ n → n < 2^40 → Fun.sizes suf < 2^40 → j < 2^40 →
  ZY (.val (.int .i64 n0)) (d.cells.map .val) (.val (.int .i64 n)) x11 x12 (.val (.int .i64 j)) x (.val (.int .i64 L.length)) (.val (.int .i64 i)) s = Z4 (.val (.int .i64 (maxI n0 (deepCons d.cons (deepFuns suf n) + 1)))) x11 x12 (.val (.int .i64 (j + 1 : Nat))) s
 | [], pre, n, s, i, h, hi, H, h0, h1, h2, hj => by
   subst hi
   have hc := Con.len_sizes d.cons
   rw [Q34]; simp only [go_sem, Q9 (by simpa using h), Dec.cells_eq]
   exact Q0T d.cons _ (by simp only [go_sem]) (by omega) x x11 x12 n0 j d.cons [] n s 0 rfl rfl h0 h1 hd hj
 | .mk nm a c :: suf, pre, n, s, i, h, hi, H, h0, h1, h2, hj => by
   subst hi
   obtain ⟨f1, f2, f3⟩ := Q8 hx h (by omega) (Fun.cells_len (.mk nm a c)) (by decide)
   have ht := Q8g c
   simp only [Fun.sizes, Fun.size] at h2
   have hm := QG n (deepCase c) (2^40 - 1)
   have hn := QF n (deepCase c)
   have hc : ∀ s, cw (.f Z3) [.sl [c.enc]] s = some (.ret (.val (.int .i64 (deepCase c))), s) := fun s => by
    rw [H (.mk nm a c) (List.mem_cons_self) (.sl [c.enc]) s (by simp only [go_sem]; rfl)]
    obtain ⟨p, e⟩ := c
    simp only [Fun.case, deepCases, deepCase]
   rw [Q34]; simp only [go_sem, Nat.reduceAdd, Nat.reduceLeDiff, f1, f2, f3, hc]
   exact Q2q L x hx hl d x11 x12 n0 j hd suf (pre ++ [_]) _ s _ (by simpa using h) (by simp) (fun u hu => H u (List.mem_cons_of_mem _ hu)) (by omega) (by omega) (by omega) hj
theorem Q1D (L : List Dec) (x : Slot) (hx : x.list? = some (L.map Dec.enc)) (hl : L.length < 2^40) : ∀ (suf pre : List Dec) (n : Int) (s : St) (i : Nat), pre ++ suf = L → i = pre.length → (∀ d ∈ suf, deepCasesOK d.case ∧ ∀ f ∈ d.funs, deepCasesOK [f.case]) → 0 ≤ n → n < 2^40 → Dec.sizes suf < 2^40 →
  Z4 (.val (.int .i64 n)) x (.val (.int .i64 L.length)) (.val (.int .i64 i)) s = some (.ret (.val (.int .i64 (deepDecs suf n))), s)
 | [], pre, n, s, i, h, hi, H, h0, h1, h2 => by
   subst hi
   rw [Q33]; simp only [go_sem, Q9 (by simpa using h)]; rfl
 | .mk k a nm p l nb c cb f fb :: suf, pre, n, s, i, h, hi, H, h0, h1, h2 => by
   subst hi
   obtain ⟨f1, f2, f3⟩ := Q8 hx h (by omega) (Dec.cells_len (.mk k a nm p l nb c cb f fb)) (by decide)
   obtain ⟨hC, hF⟩ := H (.mk k a nm p l nb c cb f fb) (List.mem_cons_self)
   simp only [Dec.case, Dec.funs] at hC hF
   simp only [Dec.sizes, Dec.size] at h2
   have g1 := ZT c 0
   have g2 := Q1n f (deepCases c 0)
   have g3 := Q1X l (deepFuns f (deepCases c 0))
   have g5 := QF n (deepCons l (deepFuns f (deepCases c 0)) + 1)
   have g6 := QG n (deepCons l (deepFuns f (deepCases c 0)) + 1) (2^40 - 1) (by omega) (by omega)
   have g7 := Fun.len_sizes f
   have hlen : pre.length < L.length := by rw [← h]; simp
   have hc1 := fun s => hC (encS cb (c.map Case.enc)) s (by simp only [go_sem])
   rw [Q33]; simp only [go_sem, Nat.reduceAdd, Nat.reduceLeDiff, f1, f2, hc1]
   have := Q2q f (.val (encS fb (f.map Fun.enc))) (by simp only [go_sem]) (by omega) (.mk k a nm p l nb c cb f fb) x (.val (.int .i64 L.length)) n pre.length (by simp only [Dec.cons]; omega) f [] (deepCases c 0) s 0 rfl rfl hF (by omega) (by omega) (by omega) (by omega)
   simp only [go_sem, Dec.cons] at this
   rw [show ((0 : Nat) : Int) = 0 from rfl] at this
   rw [this]
   exact Q1D L x hx hl suf (pre ++ [_]) _ s _ (by simpa using h) (by simp) (fun u hu => H u (List.mem_cons_of_mem _ hu)) (by omega) (by omega) (by omega)
theorem Qd2 : ∀ m : Nat, (∀ e : Exp, e.size ≤ m → e.size < 2^40 → deepExpOK e) ∧ (∀ l : List Case, Case.sizes l ≤ m → Case.sizes l < 2^40 → deepCasesOK l) ∧ (∀ l : List Dec, Dec.sizes l ≤ m → Dec.sizes l < 2^40 → deepDecsOK l) := by
 intro m
 induction m with
 | zero =>
   refine ⟨fun e h _ => ?_, fun l h _ v s hv => ?_, fun l h _ v s hv => ?_⟩
   ·obtain ⟨k, a, nm, n, l, lb, c, cb, d, db⟩ := e
    simp only [Exp.size] at h; omega
   ·cases l with
    | cons c l => obtain ⟨p, e⟩ := c; simp only [Case.sizes, Case.size] at h; omega
    | nil =>
      rw [Q46]; simp only [go_sem, hv]
      exact Q1q [] _ hv (by decide) [] [] 0 s 0 rfl rfl (by simp) (by decide) (by decide) (by simp only [Case.sizes]; decide)
   ·cases l with
    | cons c l => obtain ⟨k, a, nm, p, l, nb, c, cb, f, fb⟩ := c; simp only [Dec.sizes, Dec.size] at h; omega
    | nil =>
      rw [Q4V]; simp only [go_sem, hv]
      exact Q1D [] _ hv (by decide) [] [] 0 s 0 rfl rfl (by simp) (by decide) (by decide) (by simp only [Dec.sizes]; decide)
 | succ m ih =>
   obtain ⟨ihE, ihC, ihD⟩ := ih
   have hC : ∀ l : List Case, Case.sizes l ≤ m + 1 → Case.sizes l < 2^40 → deepCasesOK l := fun l h h' v s hv => by
    have := Case.len_sizes l
    rw [Q46]; simp only [go_sem, hv]
    exact Q1q l _ hv (by omega) l [] 0 s 0 rfl rfl (fun t ht => ihE t.exp (by have := Case.mem_sizes ht; obtain ⟨p, e⟩ := t; simp only [Case.size, Case.exp] at *; omega) (by have := Case.mem_sizes ht; obtain ⟨p, e⟩ := t; simp only [Case.size, Case.exp] at *; omega)) (by decide) (by decide) h'
   refine ⟨fun e h h' s => ?_, hC, fun l h h' v s hv => ?_⟩
   ·obtain ⟨k, a, nm, n, l, lb, c, cb, d, db⟩ := e
    simp only [Exp.size] at h h'
    have hl := Exp.len_sizes l
    have g1 := Q1m d 0
    have g2 := ZT c 0
    have g3 := QG (deepDecs d 0) (deepCases c 0) (2^40 - 1) (by omega) (by omega)
    have g4 := QF (deepDecs d 0) (deepCases c 0)
    have hD := fun s => ihD d (by omega) (by omega) (encS db (d.map Dec.enc)) s (by simp only [go_sem])
    have hCc := fun s => ihC c (by omega) (by omega) (encS cb (c.map Case.enc)) s (by simp only [go_sem])
    rw [QaK]; simp only [go_sem, Nat.reduceAdd, Nat.reduceLeDiff, Exp.enc, hD, hCc]
    exact Q47 l _ (by simp only [go_sem]) (by omega) l [] _ s 0 rfl rfl (fun t ht => ihE t (by have := Exp.mem_sizes ht; omega) (by have := Exp.mem_sizes ht; omega)) (by omega) (by omega) (by omega)
   ·have := Dec.len_sizes l
    rw [Q4V]; simp only [go_sem, hv]
    refine Q1D l _ hv (by omega) l [] 0 s 0 rfl rfl (fun t ht => ?_) (by decide) (by decide) h'
    have h1 := Dec.mem_sizes ht
    obtain ⟨k, a, nm, p, l, nb, c, cb, f, fb⟩ := t
    simp only [Dec.size] at h1
    refine ⟨ihC c (by omega) (by omega), fun g hg => ?_⟩
    have h2 := Fun.mem_sizes hg
    obtain ⟨nm, a, c'⟩ := g
    simp only [Dec.funs, Fun.size] at h2
    exact ihC [c'] (by simp only [Case.sizes]; omega) (by simp only [Case.sizes]; omega)
theorem Q7M (l : List Dec) (nl : Bool) (s : St) (h : Dec.sizes l < 2^40) : cw (.f QW) [encS nl (l.map Dec.enc)] s = some (.ret (.val (.int .i64 (deepDecs l 0))), s) := (Qd2 (Dec.sizes l)).2.2 l (Nat.le_refl _) h _ s (by simp only [go_sem])
end Go.Proofs.YtoahliipbclneaaGreat