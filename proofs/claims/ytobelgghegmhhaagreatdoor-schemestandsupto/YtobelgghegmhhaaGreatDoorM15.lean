/- A part of the proof: PSch4, SLaw10, SLaw10b, RDec10, LSchemeOrder, LSchemeStands. -/
import Derived.Test.YtobelgghegmhhaaGreatDoorM8
import Derived.Test.YtobelgghegmhhaaGreatDoorM13
import Derived.Test.YtobelgghegmhhaaGreatDoorM14
set_option linter.unusedVariables false
set_option linter.unusedSimpArgs false
namespace Go.Am
open Go
mutual
theorem Q1Y (l : List Ty) : ∀ t : Ty, (chTy (toPut l) t ()).1 = rebT (fun n => (toPut l n ()).1) t
 | .mk k n s a b => by
   simp only [chTy, rebT]
   cases decide (k = 1) with
   | true => rfl
   | false => simp only [cond_false, QcN l a]
theorem QcN (l : List Ty) : ∀ a : List Ty, (chTys (toPut l) a ()).1 = rebTs (fun n => (toPut l n ()).1) a
 | [] => rfl
 | t :: a => by
   simp only [chTys, rebTs, Q1Y l t]
   rw [show (chTy (toPut l) t ()).2 = () from rfl, QcN l a]
end
mutual
theorem Qcc : ∀ t : Ty, allTy goodB (ownTy t) = allTy goodB t
 | .mk k n s l b => by
   simp only [ownTy, allTy, Qai l]
   congr 1
   unfold goodB
   simp only [Ty.kind, Ty.n, Ty.name, Ty.args, Q3s, List.length_map]
theorem Qai : ∀ l : List Ty, allTys goodB (ownTys l) = allTys goodB l
 | [] => rfl
 | t :: l => by simp only [ownTys, allTys, Qcc t, Qai l]
end
mutual
theorem Q7P {f : Int → Ty} (h : ∀ n, 0 ≤ n → allTy goodB (f n) = true) : ∀ t : Ty, allTy goodB t = true → allTy goodB (rebT f t) = true
 | .mk k n s l b, hg => by
   simp only [allTy, Bool.and_eq_true] at hg
   simp only [rebT]
   cases hk : decide (k = 1) with
   | true => exact h n (Q1d hg.1 hk).1
   | false =>
     simp only [cond_false, allTy, Qaj h l hg.2, Bool.and_true]
     have := hg.1
     unfold goodB at this ⊢
     simp only [Ty.kind, Ty.n, Ty.name, Ty.args, Q4b, List.length_map] at this ⊢
     exact this
theorem Qaj {f : Int → Ty} (h : ∀ n, 0 ≤ n → allTy goodB (f n) = true) : ∀ l : List Ty, allTys goodB l = true → allTys goodB (rebTs f l) = true
 | [], _ => rfl
 | t :: l, hg => by
   simp only [allTys, Bool.and_eq_true] at hg
   simp only [rebTs, allTys, Q7P h t hg.1, Qaj h l hg.2, Bool.and_self]
end
theorem Q67 {n : Int} (h : 0 ≤ n) : allTy goodB (tvar n) = true := by
 simp [tvar, allTy, allTys, goodB, goodC, Ty.kind, Ty.n, Ty.name, Ty.args, h]
mutual
theorem Q7Y : ∀ t : Ty, allTy goodB t = true → allTy (varB fun n => decide (0 ≤ n)) t = true
 | .mk k n s l b, hg => by
   simp only [allTy, Bool.and_eq_true] at hg ⊢
   refine ⟨?_, Qay l hg.2⟩
   unfold varB
   rw [show (Ty.mk k n s l b).kind = k from rfl, show (Ty.mk k n s l b).n = n from rfl]
   cases hk : decide (k = 1) with
   | true => simpa using (Q1d hg.1 hk).1
   | false => rfl
theorem Qay : ∀ l : List Ty, allTys goodB l = true → allTys (varB fun n => decide (0 ≤ n)) l = true
 | [], _ => rfl
 | t :: l, hg => by
   simp only [allTys, Bool.and_eq_true] at hg ⊢
   exact ⟨Q7Y t hg.1, Qay l hg.2⟩
end
mutual
theorem Q5P {p q : Ty → Bool} : ∀ t : Ty, allTy p t = true → allTy q t = true → allTy (fun t => p t && q t) t = true
 | .mk k n s l b, h, g => by
   simp only [allTy, Bool.and_eq_true] at h g ⊢
   exact ⟨⟨h.1, g.1⟩, Q8n l h.2 g.2⟩
theorem Q8n {p q : Ty → Bool} : ∀ l : List Ty, allTys p l = true → allTys q l = true → allTys (fun t => p t && q t) l = true
 | [], _, _ => rfl
 | t :: l, h, g => by
   simp only [allTys, Bool.and_eq_true] at h g ⊢
   exact ⟨Q5P t h.1 g.1, Q8n l h.2 g.2⟩
end
theorem Qfm {l : List Ty} (hl : l.all rightTyB = true) (n : Int) (h : 0 ≤ n) : allTy goodB (toPut l n ()).1 = true := by
 simp only [toPut]
 split
 ·rename_i hn
  rw [Qcc]
  rw [List.all_eq_true] at hl
  have : l.getD n.toNat default ∈ l := by
   rw [List.getD_eq_getElem?_getD, List.getElem?_eq_getElem (show n.toNat < l.length by omega)]
   exact List.getElem_mem _
  exact Qw (hl _ this)
 ·exact Q67 h
theorem QhT {l : List Ty} (hl : l.all rightTyB = true) {t : Ty} (h : allTy goodB t = true) : allTy goodB (putTy t l) = true := by
 show allTy goodB (chTy (toPut l) t ()).1 = true
 rw [Q1Y]
 exact Q7P (fun n hn => Qfm hl n hn) t h
theorem QaF {l : List Ty} (hl : l.all rightTyB = true) {t : Ty} (h : rightTyB t = true) (hs : (putTy t l).size ≤ 256) : rightTyB (putTy t l) = true := by
 have := QhT hl (Qw h)
 unfold rightTyB
 rw [this, decide_eq_true hs]; rfl
theorem Qat (old : List Int) (n : Int) : (numF old n).size = 1 := rfl
theorem Qgn (old : List Int) (n : Int) : allTy goodB (numF old n) = true := by
 refine Q67 ?_
 unfold posV
 cases placeI n old 0 <;> simp
mutual
theorem Qe7 : ∀ (t : Ty) (old : List Int), (chTy toCanon t old).2.length ≤ old.length + t.size
 | .mk k n s l b, old => by
   simp only [chTy, Ty.size]
   cases decide (k = 1) with
   | true =>
     simp only [cond_true, Q2P]
     split
     ·simp only [List.length_append, List.length_singleton]; omega
     ·omega
   | false =>
     have := QbS l old
     simp only [cond_false]; omega
theorem QbS : ∀ (l : List Ty) (old : List Int), (chTys toCanon l old).2.length ≤ old.length + Ty.sizes l
 | [], old => by simp [chTys]
 | t :: l, old => by
   have h1 := Qe7 t old
   have h2 := QbS l (chTy toCanon t old).2
   simp only [chTys, Ty.sizes]; omega
end
theorem Qa5 (t : Ty) : (canonTy t).2.length ≤ t.size := by
 have := Qe7 t []
 simpa [canonTy] using this
theorem QhL {t : Ty} (keep : List Int) (h : rightTyB t = true) : rightSB (ofP t keep).1 (ofP t keep).2 = true := by
 unfold ofP
 rw [h, cond_true]
 have h1 := ZY h
 have h2 := Q1Z (numF (oldS (canonTy t).2 keep)) (Qat _) t
 have h3 := Q7P (f := numF (oldS (canonTy t).2 keep)) (fun n _ => Qgn _ n) t (Qw h)
 have h4 := Qa5 t
 have h5 : ownN (canonTy t).2 keep ≤ (canonTy t).2.length := List.length_filter_le _ _
 unfold rightSB rightTyB
 rw [h3, decide_eq_true (show (rebT (numF (oldS (canonTy t).2 keep)) t).size ≤ 256 by omega), decide_eq_true (by omega), decide_eq_true (by omega)]
 rfl
theorem Qfh {vars : Int} {t : Ty} {l : List Ty} (h : rightSB vars t = true) (hk : allTy (varB fun n => decide (n < vars)) t = true) (he : (instT vars t l).2 = 0) : moreP vars t (ofP (instT vars t l).1 []).1 (ofP (instT vars t l).1 []).2 = true := by
 unfold instT at he ⊢
 rw [h] at he ⊢
 cases h1 : (!true || (!decide ((l.length : Int) = vars) || !l.all rightTyB)) with
 | true => rw [h1] at he; cases he
 | false =>
   rw [h1] at he
   simp only [cond_false] at he ⊢
   cases h2 : decide ((putTy t l).size > 256) with
   | true => rw [h2] at he; cases he
   | false =>
     have h2 := of_decide_eq_false h2
     simp only [Bool.not_true, Bool.false_or, Bool.or_eq_false_iff, Bool.not_eq_false'] at h1
     have hr := QaF h1.2 (QG h).1 (by omega)
     refine (Q7U _ _ _ _).2 ⟨h, QhL [] hr, ?_⟩
     simp only [cond_false]
     unfold ofP
     rw [hr, cond_true]
     refine ⟨fun n => rebT (numF (oldS (canonTy (putTy t l)).2 [])) (toPut l n ()).1, ?_⟩
     have e : ∀ f, rebT f (putTy t l) = rebT (fun n => rebT f (toPut l n ()).1) t := fun f => by rw [show putTy t l = rebT (fun n => (toPut l n ()).1) t from Q1Y l t, Q9G]
     congr 1
     rw [e]
     refine Q2V (p := fun n => decide (n < vars)) (fun n hn => ?_) t hk
     unfold sub
     rw [hn, cond_true]
def turnL (m : Nat) : List Ty := (List.range m).map fun (i : Nat) => tvar ((m : Int) - 1 - (i : Int))
theorem Q1k (m : Nat) : (turnL m).length = m := by simp [turnL]
theorem Qd5 (m i : Nat) (h : i < m) : (turnL m).getD i default = tvar ((m : Int) - 1 - (i : Int)) := by
 unfold turnL
 simp [List.getD_eq_getElem?_getD, h]
theorem Q7x (m : Nat) : (turnL m).all rightTyB = true := by
 rw [List.all_eq_true]
 intro t ht
 obtain ⟨i, hi, rfl⟩ := List.mem_map.1 ht
 have := List.mem_range.1 hi
 unfold rightTyB
 rw [Q67 (by omega)]
 rfl
theorem Q3u {m : Nat} {n : Int} (h0 : 0 ≤ n) (h : n < m) : (toPut (turnL m) n ()).1 = tvar ((m : Int) - 1 - n) := by
 simp only [toPut, Q1k]
 rw [if_pos ⟨h0, h⟩, Qd5 m n.toNat (by omega)]
 simp only [tvar, ownTy, ownTys]
 congr 1; omega
theorem Q4k (m : Nat) (t : Ty) : (putTy t (turnL m)).size ≤ t.size := by
 show (chTy (toPut (turnL m)) t ()).1.size ≤ _
 rw [Q1Y]
 refine Q1Z _ (fun n => ?_) t
 by_cases h : 0 ≤ n ∧ n < m
 ·rw [Q3u h.1 h.2]; rfl
 ·simp only [toPut, Q1k]
  rw [if_neg h]; rfl
theorem QgN {vars : Int} {t : Ty} {m : Nat} (hm : (m : Int) = vars) (h : rightSB vars t = true) : instT vars t (turnL m) = (putTy t (turnL m), 0) := by
 have h1 := ZY (QG h).1
 have h2 := Q4k m t
 unfold instT
 rw [h, Q7x, Q1k, decide_eq_true hm, decide_eq_false (show ¬ (putTy t (turnL m)).size > 256 by omega)]
 rfl
theorem Qic {vars : Int} {t : Ty} {m : Nat} (hm : (m : Int) = vars) (h : rightSB vars t = true) (hk : allTy (varB fun n => decide (n < vars)) t = true) : moreP vars t vars (putTy t (turnL m)) = true ∧ moreP vars (putTy t (turnL m)) vars t = true := by
 have hr := (QG h).1
 have h1 := ZY hr
 have h2 := Q4k m t
 have hr2 := QaF (Q7x m) hr (by omega)
 have hR : rightSB vars (putTy t (turnL m)) = true := by
  have := (QG h).2
  unfold rightSB
  rw [hr2, decide_eq_true (by omega), decide_eq_true (by omega)]; rfl
 have e : putTy t (turnL m) = rebT (fun n => (toPut (turnL m) n ()).1) t := Q1Y _ t
 have hp : allTy (varB fun n => decide (0 ≤ n) && decide (n < vars)) t = true := by
  refine Q2R (fun u hu => ?_) t (Q5P t (Q7Y t (Qw hr)) hk)
  unfold varB at hu ⊢
  simp only [Bool.or_eq_true, Bool.and_eq_true, Bool.not_eq_true', decide_eq_false_iff_not, decide_eq_true_eq] at hu ⊢
  omega
 refine ⟨(Q7U _ _ _ _).2 ⟨h, hR, fun n => tvar ((m : Int) - 1 - n), ?_⟩, (Q7U _ _ _ _).2 ⟨hR, h, fun n => tvar ((m : Int) - 1 - n), ?_⟩⟩
 ·rw [e]
  congr 1
  refine Q2V (fun n hn => ?_) t hp
  simp only [Bool.and_eq_true, decide_eq_true_eq] at hn
  rw [Q3u hn.1 (by omega)]
  unfold sub
  rw [decide_eq_true hn.2]; rfl
 ·rw [e, Q9G, ← QcO (f := tvar) (fun n _ => rfl) t (Qw hr)]
  congr 1
  refine Q2V (fun n hn => ?_) t hp
  simp only [Bool.and_eq_true, decide_eq_true_eq] at hn
  rw [Q3u hn.1 (by omega)]
  simp only [tvar, rebT, decide_true, cond_true, sub]
  rw [decide_eq_true (show (m : Int) - 1 - n < vars by omega), cond_true]
  congr 1; omega
end Go.Am
namespace Go.Am
open Go
theorem Qgm {t : Ty} : NamesTy t ↔ ∀ u ∈ preTy t, u.name.length < 2^40 := by
 unfold NamesTy
 rw [Q2O]
 constructor
 ·intro h u hu
  exact h _ (List.mem_map.2 ⟨u, hu, rfl⟩)
 ·intro h n hn
  obtain ⟨u, hu, rfl⟩ := List.mem_map.1 hn
  exact h u hu
theorem Q2F {k n : Int} {s : Str} {l : List Ty} {b : Bool} (h : s.length < 2^40) (g : ∀ t ∈ l, NamesTy t) : NamesTy (.mk k n s l b) := by
 intro nd hn
 simp only [nodesTy, List.mem_cons] at hn
 rcases hn with rfl | hn
 ·exact h
 ·have : ∀ (l : List Ty), (∀ t ∈ l, NamesTy t) → ∀ nd ∈ nodesTys 0 l, nd.ok := by
   intro l
   induction l with
   | nil => intro _ nd h; simp [nodesTys] at h
   | cons t l ih =>
     intro h nd hn
     simp only [nodesTys, List.mem_append] at hn
     rcases hn with hn | hn
     ·exact h t List.mem_cons_self nd hn
     ·exact ih (fun t ht => h t (List.mem_cons_of_mem _ ht)) nd hn
  exact this l g nd hn
mutual
theorem Qar {f : Int → Ty} {p : Int → Bool} (h : ∀ n, p n = true → NamesTy (f n)) : ∀ t : Ty, NamesTy t → allTy (varB p) t = true → NamesTy (rebT f t)
 | .mk k n s l b, hn, hp => by
   simp only [allTy, Bool.and_eq_true] at hp
   simp only [rebT]
   cases hk : decide (k = 1) with
   | true => exact h n (Q1U hp.1 hk)
   | false =>
     rw [cond_false]
     exact Q2F hn.name (Q8P h l (fun t ht => hn.arg ht) hp.2)
theorem Q8P {f : Int → Ty} {p : Int → Bool} (h : ∀ n, p n = true → NamesTy (f n)) : ∀ l : List Ty, (∀ t ∈ l, NamesTy t) → allTys (varB p) l = true → ∀ t ∈ rebTs f l, NamesTy t
 | [], _, _, t, ht => by simp [rebTs] at ht
 | u :: l, hn, hp, t, ht => by
   simp only [allTys, Bool.and_eq_true] at hp
   simp only [rebTs, List.mem_cons] at ht
   rcases ht with rfl | ht
   ·exact Qar h u (hn u List.mem_cons_self) hp.1
   ·exact Q8P h l (fun t ht => hn t (List.mem_cons_of_mem _ ht)) hp.2 t ht
end
theorem Q2o (n : Int) : NamesTy (tvar n) := Q2F (by decide) (by simp)
theorem QdI {vars n : Int} (hv : 0 ≤ vars ∧ vars ≤ 256) (hn : 0 ≤ n ∧ n ≤ 9223372036854775807) : NamesTy (showF vars n) := by
 unfold showF
 cases hd : decide (n < vars) with
 | true => exact Q2o n
 | false =>
   have hd' := of_decide_eq_false hd
   have := (Qce (m := n - vars) (by omega) (by omega)).2
   unfold keptN at this
   exact Q2F (by omega) (by simp)
theorem Qgu (l : List Ty) (M : Nat) (h : ∀ u ∈ l, u.size ≤ M) (t : Ty) : (putTy t l).size ≤ t.size * (M + 1) := by
 show (chTy (toPut l) t ()).1.size ≤ _
 rw [Q1Y]
 have h1 : ∀ n, ((toPut l n ()).1).size ≤ M + 1 := fun n => by
  simp only [toPut]
  split
  ·rename_i hn
   rw [Q8S]
   have := Qah h n.toNat (by omega)
   omega
  ·show 1 ≤ _; omega
 have both : ∀ k : Nat, ∀ t : Ty, t.size ≤ k → (rebT (fun n => (toPut l n ()).1) t).size ≤ t.size * (M + 1) := by
  intro k
  induction k with
  | zero => intro t h; have := Ty.size_pos t; omega
  | succ k ih =>
    intro t h
    cases t with
    | mk kd n s a b =>
      simp only [Ty.size] at h
      simp only [rebT, Ty.size, Nat.add_mul]
      cases decide (kd = 1) with
      | true => have := h1 n; simp only [cond_true]; omega
      | false =>
        have hl : ∀ a : List Ty, Ty.sizes a ≤ k → Ty.sizes (rebTs (fun n => (toPut l n ()).1) a) ≤ Ty.sizes a * (M + 1) := by
         intro a
         induction a with
         | nil => intro _; simp [rebTs, Ty.sizes]
         | cons u a iha =>
           intro hk
           simp only [Ty.sizes] at hk
           have a1 := ih u (by omega)
           have a2 := iha (by omega)
           simp only [rebTs, Ty.sizes, Nat.add_mul]; omega
        have := hl a (by omega)
        simp only [cond_false, Ty.size]; omega
 exact both t.size t (Nat.le_refl _)
def fewL (x : Sch) (l : List Ty) : Bool := l.all (fun t => decide (fewT t 300 0 ≥ 0)) && (decide ((l.length : Int) < 300) && decide (fewT x.ty 400 0 ≥ 0))
def keptB (x : Sch) : Bool := (varsTyR x.ty).any fun n => decide (n ≥ x.vars)
def fnK (a b : Ty) : Ty := .mk 2 0 [45, 62] [a, b] false
def kOf : Ty := fnK (tvar 3) (fnK (tvar 5) (tvar 3))
def kShow : Ty := rebT (numF [3, 5]) kOf
def kA : Sch := ⟨2, fnK (tvar 0) (tvar 1)⟩
def kB : Sch := ⟨1, fnK (tvar 0) (tvar 0)⟩
def kInt10 : Ty := .mk 2 0 [105, 110, 116] [] true
theorem Qgc : rightTyB kOf = true := by decide +kernel
theorem Qln : ofP kOf [5] = (1, kShow) := by
 unfold ofP
 rw [Qgc]
 rfl
theorem Qf3 : schemeT 1 kShow = [39, 97, 32, 45, 62, 32, 95, 97, 32, 45, 62, 32, 39, 97] := by
 rw [Qi0 1 kShow (fun _ => by unfold VarOK; decide +kernel)]
 decide +kernel
theorem kMore1 : moreP 2 kA.ty 1 kB.ty = true := by decide +kernel
theorem kMore2 : moreP 1 kB.ty 2 kA.ty = false := by decide +kernel
theorem kInst1 : (instT 1 kB.ty [kInt10]).2 = 0 := by decide +kernel
theorem kInst2 : eqTy (instT 1 kB.ty [kInt10]).1 (fnK kInt10 kInt10) = true := by decide +kernel
def schB (x : Sch) : Bool := decide (x.ty.size < 2^28) && (((preTy x.ty).all fun u => decide (u.name.length < 2^40)) && allTy numB x.ty)
theorem Q3B {x : Sch} (h : schB x = true) : SchOK x := by
 simp only [schB, Bool.and_eq_true, decide_eq_true_eq, List.all_eq_true] at h
 exact ⟨h.1, Qgm.2 h.2.1, h.2.2⟩
end Go.Am
namespace Go.Proofs.YtobelgghegmhhaaGreatDoor
open Go Go.Am
set_option linter.unusedVariables false
set_option maxRecDepth 4000
theorem Qjm (x : Sch) (h : SchOK x) (s : St) : Ret (cw (.f Q1N) [x.enc] s) s (.str (schemeT x.vars x.ty)) := by
 obtain ⟨vars, t⟩ := x
 cases hr : rightSB vars t with
 | false =>
   obtain ⟨s1, e1, g1⟩ := Ze vars t s (by have := h.size; simp only at this; omega) h.names
   have c := Ty.cells_eq t
   change cw _ _ _ = some (.ret (.val (.bool (rightSB vars t))), s1) at e1
   rw [Q4P]
   unfold schemeT
   rw [hr] at e1 ⊢
   simp only [go_sem, Nat.reduceAdd, Nat.reduceLeDiff, Sch.enc, Sch.cells, c] at e1 ⊢
   simp only [go_sem, e1]
   exact ⟨s1, rfl, g1⟩
 | true =>
   have r := QG hr
   have hv := h.var r.1
   exact Q84 vars t s h.size h.names (Z4 t h.size) (Qar (p := fun n => decide (0 ≤ n) && decide (n ≤ 9223372036854775807)) (fun n hn => QdI r.2 (by simpa using hn)) t h.names hv) hv
theorem Qhv {l : List AV} {off sz : Nat} {m : List AV} (h : sz = 1) (k : off + 1 ≤ l.length) (r : List (Nat × Nat × Slot)) : fillS l ((off, sz, .full m) :: r) = fillS (l.take off ++ ([.sl m] ++ l.drop (off + 1))) r := by
 subst h
 exact QeT (x := .full m) (v := .sl m) rfl rfl rfl k r
theorem Q1g (n : Int) (s : St) : cw (.f ZJ) [.int .i64 n] s = some (.ret (.val (tvar n).enc), s) := by
 rw [Qf5]
 simp only [go_sem, Nat.reduceAdd, Nat.reduceLeDiff, tvar, Ty.enc]
theorem Q0L (a b : Ty) (s : St) : cw (.f Q0A) [a.enc, b.enc] s = some (.ret (.val (fnK a b).enc), s) := by
 have ca := Ty.cells_eq a
 have cb := Ty.cells_eq b
 rw [QdE]
 simp only [go_sem, Nat.reduceAdd, Nat.reduceLeDiff, fnK, Ty.enc, ca, cb, Qhv]
theorem Q4G (x : Sch) (l : List Ty) (y : Slot) (hy : y.list? = some (l.map Ty.enc)) (hl : l.length < 2^40) (hs : ∀ t ∈ l, t.size < 2^40 ∧ NamesTy t) (hx : x.ty.size < 2^40 ∧ NamesTy x.ty) (s : St) : ∀ (suf pre : List Ty) (i : Nat), pre ++ suf = l → i = pre.length →
  Q1f y (x.cells.map .val) (.val (.int .i64 l.length)) (.val (.int .i64 i)) s = some (.ret (.val (.bool (suf.all (fun t => decide (fewT t 300 0 ≥ 0)) && (decide ((l.length : Int) < 300) && decide (fewT x.ty 400 0 ≥ 0))))), s)
 | [], pre, i, h, hi => by
   subst hi
   have c := Ty.cells_eq x.ty
   have e1 := Q8h x.ty 400 (by decide) s hx.1 hx.2
   rw [Q47]
   simp only [Ty.enc, c] at e1
   cases hd : decide ((l.length : Int) < 300) with
   | true => simp only [go_sem, Nat.reduceAdd, Nat.reduceLeDiff, Sch.cells, c, Qh (by simpa using h), hy, List.length_map, hd, e1, List.all_nil]
   | false => simp only [go_sem, Nat.reduceAdd, Nat.reduceLeDiff, Sch.cells, c, Qh (by simpa using h), hy, List.length_map, hd, List.all_nil]
 | t :: suf, pre, i, h, hi => by
   subst hi
   obtain ⟨f1, f2, f3⟩ := Qe hy h (by omega) (Ty.cells_len t) (by decide)
   have ht := hs t (by rw [← h]; simp)
   have e1 := Q8h t 300 (by decide) s ht.1 ht.2
   rw [Q47, List.all_cons]
   cases hd : decide (fewT t 300 0 ≥ 0) with
   | false =>
     rw [hd] at e1
     simp only [go_sem, Nat.reduceLeDiff, f1, f2, f3, e1]
   | true =>
     rw [hd] at e1
     have ih := Q4G x l y hy hl hs hx s suf (pre ++ [t]) (pre.length + 1) (by simpa using h) (by simp)
     simp only [go_sem, Nat.reduceLeDiff, f1, f2, f3, e1] at ih ⊢
     exact ih
theorem Q9B (x : Sch) (l : List Ty) (v : AV) (hv : (Slot.val v).list? = some (l.map Ty.enc)) (hl : l.length < 2^40) (hs : ∀ t ∈ l, t.size < 2^40 ∧ NamesTy t) (hx : SchOK x) (s : St) : cw (.f Q2L) [x.enc, v] s = some (.ret (.val (.bool (fewL x l))), s) := by
 have e1 := Q4G x l (.val v) hv hl hs ⟨by have := hx.size; omega, hx.names⟩ s l [] 0 rfl rfl
 rw [show ((0 : Nat) : Int) = 0 from rfl] at e1
 have c := Ty.cells_eq x.ty
 rw [Qcf]
 simp only [go_sem, Nat.reduceAdd, Sch.enc, Sch.cells, c, hv, List.length_map] at e1 ⊢
 exact e1
theorem Q48 (x : Sch) (L : List Int) (y : Slot) (hy : y.list? = some (L.map ekI)) (hl : L.length < 2^40) (s : St) : ∀ (suf pre : List Int) (i : Nat), pre ++ suf = L → i = pre.length →
  Q0M (x.cells.map .val) y (.val (.int .i64 L.length)) (.val (.int .i64 i)) s = some (.ret (.val (.bool (suf.any fun n => decide (n ≥ x.vars)))), s)
 | [], pre, i, h, hi => by
   subst hi
   rw [Q3J]; simp only [go_sem, Qh (by simpa using h)]; rfl
 | n :: suf, pre, i, h, hi => by
   subst hi
   have c := Ty.cells_eq x.ty
   obtain ⟨f1, f2, f3⟩ := Qe (f := ekI) (sz := 1) hy h (by omega) rfl (by decide)
   simp only [ekI] at f2
   have ih := Q48 x L y hy hl s suf (pre ++ [n]) (pre.length + 1) (by simpa using h) (by simp)
   rw [Q3J, List.any_cons]
   cases hd : decide (n ≥ x.vars) with
   | true => simp only [go_sem, Nat.reduceAdd, Nat.reduceLeDiff, Sch.cells, c, f1, f2, f3, hd]
   | false =>
     simp only [go_sem, Nat.reduceAdd, Nat.reduceLeDiff, Sch.cells, c, f1, f2, f3, hd] at ih ⊢
     exact ih
theorem Q8G (x : Sch) (h : x.ty.size < 2^28) (s : St) : Ret (cw (.f Q23) [x.enc] s) s (.bool (keptB x)) := by
 obtain ⟨y, s1, e1, a1, g1⟩ := Q90 x.ty s h
 have hlen : (varsTyR x.ty).length ≤ x.ty.size := by have := Qb0 (preTy x.ty) []; rw [Q6o] at this; simpa [varsTyR] using this
 have e2 := Q48 x (varsTyR x.ty) y a1.list? (by omega) s1 (varsTyR x.ty) [] 0 rfl rfl
 rw [show ((0 : Nat) : Int) = 0 from rfl] at e2
 have c := Ty.cells_eq x.ty
 refine ⟨s1, ?_, g1⟩
 rw [Qb7]
 unfold keptB
 simp only [go_sem, Nat.reduceAdd, Nat.reduceLeDiff, Sch.enc, Sch.cells, c, Ty.enc] at e1 e2 ⊢
 simp only [go_sem, e1, a1.list?, List.length_map, e2]
theorem Q0G (s : St) : Ret (cw (.f Q1J) [] s) s (.bool true) := by
 have v3 := fun s => Q1g 3 s
 have v5 := fun s => Q1g 5 s
 have v0 := fun s => Q1g 0 s
 have v1 := fun s => Q1g 1 s
 have f1 := fun s => Q0L (tvar 5) (tvar 3) s
 have f2 := fun s => Q0L (tvar 3) (fnK (tvar 5) (tvar 3)) s
 have f3 := fun s => Q0L (tvar 0) (tvar 1) s
 have f4 := fun s => Q0L (tvar 0) (tvar 0) s
 have f5 := fun s => Q0L kInt10 kInt10 s
 have okOf : SchOK ⟨0, kOf⟩ := Q3B (by decide +kernel)
 have okShow : SchOK ⟨1, kShow⟩ := Q3B (by decide +kernel)
 have okA : SchOK kA := Q3B (by decide +kernel)
 have okB : SchOK kB := Q3B (by decide +kernel)
 have okI : SchOK ⟨0, kInt10⟩ := Q3B (by decide +kernel)
 obtain ⟨s1, e1, g1⟩ := Q4O kOf [5] (.sl [.int .i64 5]) rfl (by decide) s okOf.size okOf.names
 rw [Qln] at e1
 obtain ⟨s2, e2, g2⟩ := Q1T 1 kB.ty [kInt10] false s1 okB.size okB.names (Z4 _ okB.size) (by decide) (by
  intro u hu
  rw [List.mem_singleton.1 hu]
  exact ⟨by decide +kernel, okI.names, Z4 _ okI.size⟩) (by decide +kernel)
 obtain ⟨s3, e3, g3⟩ := Qjm ⟨1, kShow⟩ okShow s2
 obtain ⟨s4, e4, g4⟩ := ZV kA kB okA okB s3
 obtain ⟨s5, e5, g5⟩ := ZV kB kA okB okA s4
 have e6 := Q8Z (instT 1 kB.ty [kInt10]).1 (fnK kInt10 kInt10) s5 (by decide +kernel)
 rw [kInst2] at e6
 rw [kInst1] at e2
 rw [show schemeT (Sch.mk 1 kShow).vars (Sch.mk 1 kShow).ty = _ from Qf3] at e3
 rw [show moreP kA.vars kA.ty kB.vars kB.ty = true from kMore1] at e4
 rw [show moreP kB.vars kB.ty kA.vars kA.ty = false from kMore2] at e5
 have cI := Ty.cells_eq (instT 1 kB.ty [kInt10]).1
 have cS := Ty.cells_eq kShow
 generalize hI : (instT 1 kB.ty [kInt10]).1 = I at *
 generalize hS : kShow = S at *
 simp only [kOf, kA, kB, kInt10, fnK, tvar, Sch.enc, Sch.cells, Ty.enc, Ty.cells_mk, List.map_cons, List.map_nil, QeR, QbX, cI, cS] at v3 v5 v0 v1 f1 f2 f3 f4 f5 e1 e2 e3 e4 e5 e6
 refine ⟨s5, ?_, (((g1.trans g2).trans g3).trans g4).trans g5⟩
 rw [Q9C]
 simp only [go_sem, Nat.reduceAdd, Nat.reduceLeDiff, v3, v5, v0, v1, f1, f2, f3, f4, f5, e1, e2, e3, e4, e5, e6]
end Go.Proofs.YtobelgghegmhhaaGreatDoor
namespace Go.Am
open Go
mutual
theorem Qaq : ∀ t : Ty, NamesTy t → NamesTy (ownTy t)
 | .mk k n s l b, h => by
   simp only [ownTy]
   exact Q2F h.name (Q8O l fun t ht => h.arg ht)
theorem Q8O : ∀ l : List Ty, (∀ t ∈ l, NamesTy t) → ∀ t ∈ ownTys l, NamesTy t
 | [], _, t, ht => by simp [ownTys] at ht
 | u :: l, h, t, ht => by
   simp only [ownTys, List.mem_cons] at ht
   rcases ht with rfl | ht
   ·exact Qaq u (h u List.mem_cons_self)
   ·exact Q8O l (fun t ht => h t (List.mem_cons_of_mem _ ht)) t ht
end
mutual
theorem Q6h {f : Int → Ty} (h : ∀ n, NamesTy (f n)) : ∀ t : Ty, NamesTy t → NamesTy (rebT f t)
 | .mk k n s l b, hn => by
   simp only [rebT]
   cases decide (k = 1) with
   | true => exact h n
   | false => rw [cond_false]; exact Q2F hn.name (Q8N h l (fun t ht => hn.arg ht))
theorem Q8N {f : Int → Ty} (h : ∀ n, NamesTy (f n)) : ∀ l : List Ty, (∀ t ∈ l, NamesTy t) → ∀ t ∈ rebTs f l, NamesTy t
 | [], hn, t, ht => by simp [rebTs] at ht
 | u :: l, hn, t, ht => by
   simp only [rebTs, List.mem_cons] at ht
   rcases ht with rfl | ht
   ·exact Q6h h u (hn u List.mem_cons_self)
   ·exact Q8N h l (fun t ht => hn t (List.mem_cons_of_mem _ ht)) t ht
end
mutual
theorem Q7W {f : Int → Ty} (h : ∀ n, 0 ≤ n → allTy numB (f n) = true) : ∀ t : Ty, allTy goodB t = true → allTy numB (rebT f t) = true
 | .mk k n s l b, hg => by
   simp only [allTy, Bool.and_eq_true] at hg
   simp only [rebT]
   cases hk : decide (k = 1) with
   | true => exact h n (Q1d hg.1 hk).1
   | false =>
     obtain ⟨-, rfl, -⟩ := Q3G hg.1 hk
     show (numI 0 && allTys numB (rebTs f l)) = true
     rw [Qau h l hg.2]; rfl
theorem Qau {f : Int → Ty} (h : ∀ n, 0 ≤ n → allTy numB (f n) = true) : ∀ l : List Ty, allTys goodB l = true → allTys numB (rebTs f l) = true
 | [], _ => rfl
 | t :: l, hg => by
   simp only [allTys, Bool.and_eq_true] at hg
   simp only [rebTs, allTys, Q7W h t hg.1, Qau h l hg.2, Bool.and_self]
end
theorem Q7X {n : Int} (h : -9223372036854775808 ≤ n ∧ n ≤ 9223372036854775807) : allTy numB (tvar n) = true := by
 show (numI n && allTys numB []) = true
 rw [Q7V.2 h]; rfl
theorem QhJ {old : List Int} (h : old.length < 2^40) (n : Int) : allTy numB (numF old n) = true := by
 refine Q7X ?_
 unfold posV
 cases hp : placeI n old 0 with
 | none => decide
 | some j =>
   have := (Z9 hp).2.1
   simp only []; omega
theorem QhM (v keep : List Int) : (oldS v keep).length ≤ v.length + v.length := by
 unfold oldS
 have h1 := List.length_filter_le (fun n => !hasI keep n) v
 have h2 := List.length_filter_le (fun n => hasI keep n) v
 rw [List.length_append]; omega
def ofSch (t : Ty) (keep : List Int) : Sch := ⟨(ofP t keep).1, (ofP t keep).2⟩
theorem Qo2 {t : Ty} (keep : List Int) (hs : t.size < 2^28) (hn : NamesTy t) : SchOK (ofSch t keep) := by
 unfold ofSch ofP
 cases hr : rightTyB t with
 | false => exact Q3B (show schB ⟨0, zeroTy⟩ = true by decide +kernel)
 | true =>
   have h1 := Q1Z (numF (oldS (canonTy t).2 keep)) (Qat _) t
   have h2 := Qa5 t
   have h3 := QhM (canonTy t).2 keep
   exact ⟨by simp only [cond_true]; omega, Q6h (fun n => Q2o _) t hn, Q7W (fun n _ => QhJ (by omega) n) t (Qw hr)⟩
theorem Qgb (vars : Int) (t : Ty) (l : List Ty) : (instT vars t l).1.size ≤ 256 := by
 unfold instT
 cases (!rightSB vars t || (!decide ((l.length : Int) = vars) || !l.all rightTyB)) with
 | true => exact (show zeroTy.size ≤ 256 by decide)
 | false =>
   simp only [cond_false]
   cases h : decide ((putTy t l).size > 256) with
   | true => exact (show zeroTy.size ≤ 256 by decide)
   | false => have := of_decide_eq_false h; simp only [cond_false]; omega
theorem QaB {t : Ty} {l : List Ty} (h : NamesTy t) (hl : ∀ u ∈ l, NamesTy u) : NamesTy (putTy t l) := by
 show NamesTy (chTy (toPut l) t ()).1
 rw [Q1Y]
 refine Q6h (fun n => ?_) t h
 simp only [toPut]
 split
 ·rename_i hn
  refine Qaq _ (hl _ ?_)
  rw [List.getD_eq_getElem?_getD, List.getElem?_eq_getElem (show n.toNat < l.length by omega)]
  exact List.getElem_mem _
 ·exact Q2o n
theorem Qf2 {vars : Int} {t : Ty} {l : List Ty} (h : NamesTy t) (hl : ∀ u ∈ l, NamesTy u) : NamesTy (instT vars t l).1 := by
 have hz : NamesTy zeroTy := Q2F (by decide) (by simp)
 unfold instT
 cases (!rightSB vars t || (!decide ((l.length : Int) = vars) || !l.all rightTyB)) with
 | true => exact hz
 | false =>
   simp only [cond_false]
   cases decide ((putTy t l).size > 256) with
   | true => exact hz
   | false => exact QaB h hl
theorem Qid {vars : Int} {m : Nat} (hm : (m : Int) = vars) {t : Ty} (h : rightSB vars t = true) (hk : allTy (varB fun n => decide (n < vars)) t = true) : allTy numB (putTy t (turnL m)) = true := by
 have hr := QG h
 have hp : allTy (varB fun n => decide (0 ≤ n) && decide (n < vars)) t = true := by
  refine Q2R (fun u hu => ?_) t (Q5P t (Q7Y t (Qw hr.1)) hk)
  unfold varB at hu ⊢
  simp only [Bool.or_eq_true, Bool.and_eq_true, Bool.not_eq_true', decide_eq_false_iff_not, decide_eq_true_eq] at hu ⊢
  omega
 show allTy numB (chTy (toPut (turnL m)) t ()).1 = true
 rw [Q1Y, Q2V (g := fun n => if 0 ≤ n ∧ n < m then tvar ((m : Int) - 1 - n) else tvar 0) (fun n hn => by
  simp only [Bool.and_eq_true, decide_eq_true_eq] at hn
  rw [Q3u hn.1 (by omega)]
  rw [if_pos ⟨hn.1, by omega⟩]) t hp]
 refine Q7W (fun n hn => ?_) t (Qw hr.1)
 split
 ·exact Q7X (by omega)
 ·exact Q7X (by decide)
theorem Qjt {x : Sch} {m : Nat} (hx : SchOK x) (hm : (m : Int) = x.vars) (h : rightSB x.vars x.ty = true) (hk : allTy (varB fun n => decide (n < x.vars)) x.ty = true) : SchOK ⟨x.vars, putTy x.ty (turnL m)⟩ := by
 have h1 := ZY (QG h).1
 have h2 := Q4k m x.ty
 refine ⟨by show (putTy x.ty (turnL m)).size < _; omega, QaB hx.names (fun u hu => ?_), Qid hm h hk⟩
 obtain ⟨i, -, rfl⟩ := List.mem_map.1 hu
 exact Q2o _
theorem Qgd {x : Sch} (h : rightTyB x.ty = true) (hk : keptB x = false) : allTy (varB fun n => decide (n < x.vars)) x.ty = true := by
 have hg := Qw h
 unfold keptB at hk
 rw [Qju x.ty hg, List.any_eq_false] at hk
 refine Q2R (Qij fun n hn => ?_) x.ty (Qhh x.ty hg)
 have := hk n (of_decide_eq_true hn)
 simp only [decide_eq_true_eq] at this ⊢
 omega
end Go.Am
namespace Go.Proofs.YtobelgghegmhhaaGreatDoor
open Go Go.Am
set_option linter.unusedVariables false
set_option maxRecDepth 4000
section
variable {H : Type}
def GTyN (b : Nat) (t : Ty) : Prop := GTy b t ∧ allTy numB t = true
def GTysN (b : Nat) (l : List Ty) : Prop := GTys b l ∧ allTys numB l = true
theorem GTysN.nil : GTysN 0 [] := ⟨GTys.nil, rfl⟩
theorem GTysN.cons (m k : Nat) (t : Ty) (L : List Ty) (h : GTyN m t) (g : GTysN k L) : GTysN (m + k) (t :: L) :=
 ⟨GTys.cons m k t L h.1 g.1, by simp only [allTys, h.2, g.2, Bool.and_self]⟩
theorem Q9x : ∀ (n : Nat) (d : DataW H) l, conv C.ti n Q3 d = some l → Rows.uptoBulk d < 2^30 → ∃ t : Ty, l = t.cells ∧ GTyN (Rows.uptoBulk d) t
 | 0, d, l, h, _ => by simp [conv] at h
 | 1, d, l, h, _ => by
   obtain ⟨parts, ls, rfl, hf, rfl⟩ := Q4p QfI h
   rcases parts with _ | ⟨d1, _ | ⟨d2, _ | ⟨d3, _ | ⟨d4, _ | _⟩⟩⟩⟩ <;> rcases ls with _ | ⟨l1, _ | ⟨l2, _ | ⟨l3, _ | ⟨l4, _ | _⟩⟩⟩⟩ <;> simp only [Fields, and_false] at hf
   simp [conv] at hf
 | n + 2, d, l, h, hb => by
   obtain ⟨parts, ls, rfl, hf, rfl⟩ := Q4p QfI h
   rcases parts with _ | ⟨d1, _ | ⟨d2, _ | ⟨d3, _ | ⟨d4, _ | _⟩⟩⟩⟩ <;> rcases ls with _ | ⟨l1, _ | ⟨l2, _ | ⟨l3, _ | ⟨l4, _ | _⟩⟩⟩⟩ <;> simp only [Fields, and_false] at hf
   obtain ⟨c1, c2, c3, c4, -⟩ := hf
   simp only [Rows.uptoBulk, Rows.uptoBulkAll] at hb ⊢
   obtain ⟨k, rfl, rfl, w1⟩ := Q7I Qez c1
   obtain ⟨m, rfl, rfl, w2⟩ := Q7I Q1s c2
   obtain ⟨s, rfl, rfl⟩ := Qhn Qi c3
   simp only [Rows.uptoBulk] at hb ⊢
   obtain ⟨L, b, k', rfl, hL, hk⟩ := QaM QbF Q7G GTysN.nil GTysN.cons (fun d l h hb => Q9x n d l h hb) d4 l4 c4 (by omega)
   refine ⟨.mk k m s L b, by rw [Ty.cells_mk]; rfl, ⟨by have := hL.1.1; simp only [Ty.size]; omega, fun a nd hn => ?_⟩, ?_⟩
   ·simp only [nodesTy, List.mem_cons] at hn
    rcases hn with rfl | hn
    ·simp only [TNode.ok, Ty.name]; omega
    ·exact hL.1.2 a nd hn
   ·have hm := wf64 w2
    show (numI m && allTys numB L) = true
    rw [hL.2, Q7V.2 hm]; rfl
theorem Qho (n : Nat) (d : DataW H) (l : List AV) (h : conv C.ti n Q7 d = some l) (hb : Rows.uptoBulk d < 2^30) : ∃ L b, l = [encS b (L.map Ty.enc)] ∧ GTysN (Rows.uptoBulk d) L := by
 cases n with
 | zero => simp [conv] at h
 | succ n =>
   obtain ⟨L, b, k, h1, h2, h3⟩ := QaM QbF Q7G GTysN.nil GTysN.cons (fun d l h hb => Q9x n d l h hb) d l h hb
   exact ⟨L, b, h1, ⟨by have := h2.1.1; omega, h2.1.2⟩, h2.2⟩
def GSch (b : Nat) (x : Sch) : Prop := GTyN b x.ty ∧ -9223372036854775808 ≤ x.vars ∧ x.vars ≤ 9223372036854775807
theorem QhY : (C.ti Q6).k = .struct [(0, Q1), (1, Q3)] := by kernel_rfl
theorem GTyN.weaken {b b' : Nat} {t : Ty} (h : GTyN b t) (hb : b ≤ b') : GTyN b' t := ⟨⟨Nat.le_trans h.1.1 hb, h.1.2⟩, h.2⟩
theorem QeM (n : Nat) (d : DataW H) (l : List AV) (h : conv C.ti n Q6 d = some l) (hb : Rows.uptoBulk d < 2^30) : ∃ x : Sch, l = x.cells ∧ GSch (Rows.uptoBulk d) x := by
 cases n with
 | zero => simp [conv] at h
 | succ n =>
   obtain ⟨parts, ls, rfl, hf, rfl⟩ := Q4p QhY h
   rcases parts with _ | ⟨e1, _ | ⟨e2, _ | _⟩⟩ <;> rcases ls with _ | ⟨m1, _ | ⟨m2, _ | _⟩⟩ <;> simp only [Fields, and_false] at hf
   obtain ⟨c7, c8, -⟩ := hf
   simp only [Rows.uptoBulk, Rows.uptoBulkAll] at hb ⊢
   obtain ⟨vars, rfl, rfl, w7⟩ := Q7I Q1s c7
   simp only [Rows.uptoBulk] at hb ⊢
   obtain ⟨t, rfl, ht⟩ := Q9x n e2 m2 c8 (by omega)
   have hw := wf64 w7
   exact ⟨⟨vars, t⟩, by simp [Sch.cells], ht.weaken (by omega), hw.1, hw.2⟩
end
end Go.Proofs.YtobelgghegmhhaaGreatDoor
namespace Go.Proofs.YtobelgghegmhhaaGreatDoor
open Go Go.Am
set_option linter.unusedVariables false
set_option maxRecDepth 4000
theorem Q94 (x : Sch) (h : SchOK x) (s : St) : Ret (cw (.f Z7) [x.enc] s) s (.bool (rightSB x.vars x.ty)) := Ze x.vars x.ty s (by have := h.size; omega) h.names
theorem GSch.ok {k : Nat} {x : Sch} (g : GSch k x) (h : k < 2^28) : SchOK x := ⟨by have := g.1.1.1; omega, g.1.1.2 0, g.1.2⟩
end Go.Proofs.YtobelgghegmhhaaGreatDoor
namespace Go.Am
open Go
theorem Qfn (m i : Nat) (h : i < m) : (turnL m).take (i + 1) = (turnL m).take i ++ [tvar ((m : Int) - 1 - (i : Int))] := by
 have hi : i < (turnL m).length := by rw [Q1k]; exact h
 rw [List.take_succ_eq_append_getElem hi]
 congr 2
 have := Qd5 m i h
 rw [List.getD_eq_getElem?_getD, List.getElem?_eq_getElem hi] at this
 exact this
end Go.Am
namespace Go.Proofs.YtobelgghegmhhaaGreatDoor
open Go Go.Am
set_option linter.unusedVariables false
set_option maxRecDepth 4000
theorem Qfg (x : Sch) (m : Nat) (hm : (m : Int) = x.vars) (hx : SchOK x) (hr : rightSB x.vars x.ty = true) (hk : allTy (varB fun n => decide (n < x.vars)) x.ty = true) (y : Slot) (s0 s : St) (hA : AccH Q3 s0.toks.length [] s y ((turnL m).map Ty.enc)) (hM : Moves [] [] [] s0 s) :
  Ret (QO (x.cells.map .val) y (.val (.int .i64 m)) (.val (.int .i64 m)) s) s0 (.bool true) := by
 have c := Ty.cells_eq x.ty
 have h1 := ZY (QG hr).1
 have h2 := Q4k m x.ty
 have hmm : m ≤ 256 := by have := (QG hr).2; omega
 obtain ⟨s1, e1, g1⟩ := Q1T x.vars x.ty (turnL m) true s hx.size hx.names (Z4 _ hx.size) (by rw [Q1k]; omega) (fun u hu => by
  obtain ⟨i, -, rfl⟩ := List.mem_map.1 hu
  exact ⟨show (1 : Nat) < 2^40 by decide, Q2o _, QgZ _⟩) (by omega)
 rw [QgN hm hr] at e1
 obtain ⟨s2, e2, g2⟩ := Q82 x ⟨x.vars, putTy x.ty (turnL m)⟩ hx (Qjt hx hm hr hk) s1
 obtain ⟨t1, t2⟩ := Qic hm hr hk
 rw [show moreP x.vars x.ty (Sch.mk x.vars (putTy x.ty (turnL m))).vars (Sch.mk x.vars (putTy x.ty (turnL m))).ty = true from t1, show moreP (Sch.mk x.vars (putTy x.ty (turnL m))).vars (Sch.mk x.vars (putTy x.ty (turnL m))).ty x.vars x.ty = true from t2] at e2
 obtain ⟨s3, e3, g3⟩ := Q0G s2
 have z : decide ((m : Int) < (m : Int)) = false := decide_eq_false (by omega)
 have cp := Ty.cells_eq (putTy x.ty (turnL m))
 rw [Q1e]
 simp only [Sch.enc, Sch.cells, c, Ty.enc, cp] at e1 e2 ⊢
 simp only [go_sem, Nat.reduceAdd, Nat.reduceLeDiff, z, Zm hA.av, e1, e2, e3]
 exact ⟨s3, rfl, ((hM.toGrew.trans g1).trans g2).trans g3⟩
theorem Q7t (x : Sch) (m : Nat) (hm : (m : Int) = x.vars) (hx : SchOK x) (hr : rightSB x.vars x.ty = true) (hk : allTy (varB fun n => decide (n < x.vars)) x.ty = true) (s0 : St) : ∀ (k i : Nat) (y : Slot) (s : St), i + k = m → AccH Q3 s0.toks.length [] s y (((turnL m).take i).map Ty.enc) → Moves [] [] [] s0 s →
  Ret (QO (x.cells.map .val) y (.val (.int .i64 m)) (.val (.int .i64 i)) s) s0 (.bool true)
 | 0, i, y, s, h, hA, hM => by
   obtain rfl : i = m := by omega
   rw [List.take_of_length_le (by rw [Q1k]; exact Nat.le_refl _)] at hA
   exact Qfg x i hm hx hr hk y s0 s hA hM
 | k + 1, i, y, s, h, hA, hM => by
   have c := Ty.cells_eq x.ty
   have hmm : m ≤ 256 := by have := (QG hr).2; omega
   have z : decide ((i : Int) < (m : Int)) = true := decide_eq_true (by omega)
   have w1 : IntKind.i64.wrap ((m : Int) - 1) = (m : Int) - 1 := wrap64 (by omega) (by omega)
   have w2 : IntKind.i64.wrap ((m : Int) - 1 - (i : Int)) = (m : Int) - 1 - (i : Int) := wrap64 (by omega) (by omega)
   have w3 : IntKind.i64.wrap ((i : Int) + 1) = ((i + 1 : Nat) : Int) := by rw [wrap64 (by omega) (by omega)]; rfl
   have e1 := Q1g ((m : Int) - 1 - (i : Int)) s
   obtain ⟨y1, s1, e2, a2, m2, -, -, -⟩ := tyAcc (A0 := []) (h0 := []) (h := []) (s0 := s0) (B := [tvar ((m : Int) - 1 - (i : Int))]) (y := .full [(tvar ((m : Int) - 1 - (i : Int))).enc]) hA hM (by simp) rfl (by simp only [List.length_singleton, List.length_take, Q1k]; omega)
   rw [← Qfn m i (by omega)] at a2
   have ih := Q7t x m hm hx hr hk s0 k (i + 1) y1 s1 (by omega) a2 m2
   have c1 := a2.cellOk
   rw [Q1e]
   simp only [Sch.cells, c, tvar, Ty.enc, Ty.cells_mk, List.map_nil, QbX] at e1 e2 ih ⊢
   simp only [go_sem, Nat.reduceAdd, Nat.reduceLeDiff, ← hm, z, w1, w2, w3, e1, e2, c1] at ih ⊢
   exact ih
theorem Q3W (x : Sch) (l : List Ty) (nl : Bool) (hx : SchOK x) (hl : l.length < 2^28) (hls : ∀ u ∈ l, u.size < 2^28 ∧ NamesTy u) (hz : (putTy x.ty l).size < 2^40) (s : St) : Ret (cw (.f ZG) [x.enc, encS nl (l.map Ty.enc)] s) s (.bool true) := by
 have e1 := Q9B x l (encS nl (l.map Ty.enc)) (Qb _ _) (by omega) (fun t ht => ⟨by have := (hls t ht).1; omega, (hls t ht).2⟩) hx s
 have c := Ty.cells_eq x.ty
 rw [Q4F]
 cases hf : fewL x l with
 | false =>
   obtain ⟨s2, e2, g2⟩ := Q0G s
   rw [hf] at e1
   simp only [Sch.enc, Sch.cells, c] at e1 ⊢
   simp only [go_sem, Nat.reduceAdd, Nat.reduceLeDiff, e1, e2]
   exact ⟨s2, rfl, g2⟩
 | true =>
   rw [hf] at e1
   obtain ⟨s2, e2, g2⟩ := Q94 x hx s
   cases hr : rightSB x.vars x.ty with
   | false =>
     obtain ⟨s3, e3, g3⟩ := Q0G s2
     rw [hr] at e2
     simp only [Sch.enc, Sch.cells, c] at e1 e2 ⊢
     simp only [go_sem, Nat.reduceAdd, Nat.reduceLeDiff, e1, e2, e3]
     exact ⟨s3, rfl, g2.trans g3⟩
   | true =>
     rw [hr] at e2
     obtain ⟨s3, e3, g3⟩ := Q8G x hx.size s2
     cases hk : keptB x with
     | true =>
       obtain ⟨s4, e4, g4⟩ := Q0G s3
       rw [hk] at e3
       simp only [Sch.enc, Sch.cells, c] at e1 e2 e3 ⊢
       simp only [go_sem, Nat.reduceAdd, Nat.reduceLeDiff, e1, e2, e3, e4]
       exact ⟨s4, rfl, (g2.trans g3).trans g4⟩
     | false =>
       rw [hk] at e3
       have hkv := Qgd (QG hr).1 hk
       obtain ⟨m, hm⟩ := Int.eq_ofNat_of_zero_le (QG hr).2.1
       have L0 := fun s1 => Q7t x m hm.symm hx hr hkv s1 m 0 (.val .nils) s1 (by omega) (.nil _ _ _ _) (.refl _ _ _)
       obtain ⟨s4, e4, g4⟩ := Q1T x.vars x.ty l nl s3 hx.size hx.names (Z4 _ hx.size) hl (fun u hu => ⟨by have := (hls u hu).1; omega, (hls u hu).2, Z4 u (hls u hu).1⟩) hz
       have cI := Ty.cells_eq (instT x.vars x.ty l).1
       cases he : decide ((instT x.vars x.ty l).2 = 0) with
       | false =>
         obtain ⟨s5, e5, g5⟩ := L0 s4
         refine ⟨s5, ?_, ((g2.trans g3).trans g4).trans g5⟩
         simp only [Sch.enc, Sch.cells, c, Ty.enc, cI] at e1 e2 e3 e4 e5 ⊢
         simp only [go_sem, Nat.reduceAdd, Nat.reduceLeDiff, ← hm, e1, e2, e3, e4, he] at e5 ⊢
         simp only [hm] at e5 ⊢
         exact e5
       | true =>
         have hn := Qf2 (vars := x.vars) (l := l) hx.names fun u hu => (hls u hu).2
         have hs := Qgb x.vars x.ty l
         obtain ⟨s5, e5, g5⟩ := Q4O (instT x.vars x.ty l).1 [] .nils rfl (by decide) s4 (by omega) hn
         obtain ⟨s6, e6, g6⟩ := ZV x (ofSch (instT x.vars x.ty l).1 []) hx (Qo2 [] (by omega) hn) s5
         have hst := Qfh hr hkv (of_decide_eq_true he)
         rw [show moreP x.vars x.ty (ofSch (instT x.vars x.ty l).1 []).vars (ofSch (instT x.vars x.ty l).1 []).ty = true from hst] at e6
         obtain ⟨s7, e7, g7⟩ := L0 s6
         have cO := Ty.cells_eq (ofP (instT x.vars x.ty l).1 []).2
         refine ⟨s7, ?_, (((((g2.trans g3).trans g4).trans g5).trans g6).trans g7)⟩
         simp only [Sch.enc, Sch.cells, ofSch, c, Ty.enc, cI, cO] at e1 e2 e3 e4 e5 e6 e7 ⊢
         simp only [go_sem, Nat.reduceAdd, Nat.reduceLeDiff, e1, e2, e3, e4, he, e5, e6] at e7 ⊢
         rw [hm] at e7 ⊢
         exact e7
theorem Q4r {k0 k1 : Nat} (x : Sch) (gx : GSch k0 x) (l : List Ty) (nl : Bool) (gl : GTysN k1 l) (hb : k0 + (k1 + 0) ≤ 1048576) : Ret (cw (.f ZG) [x.enc, encS nl (l.map Ty.enc)] st0) st0 (.bool true) := by
 have h1 := gx.1.1.1
 have h2 := gl.1.1
 have h3 := Ty.len_sizes l
 have hm : ∀ u ∈ l, u.size ≤ k1 := fun u hu => by have := Ty.mem_sizes hu; omega
 have h4 := Qgu l k1 hm x.ty
 have h6 : x.ty.size * (k1 + 1) < 2^40 := by
  have h7 : x.ty.size * (k1 + 1) ≤ x.ty.size * 1048577 := Nat.mul_le_mul_left _ (by omega)
  by_cases hk1 : k1 = 0
  ·subst hk1; omega
  ·have h8 : x.ty.size * (k1 + 1) ≤ x.ty.size * 1048577 := h7
   have : x.ty.size ≤ 1048575 := by omega
   omega
 exact Q3W x l nl (gx.ok (by omega)) (by omega) (fun u hu => ⟨by have := hm u hu; omega, fun nd hn => gl.1.2 0 nd (Q3M 0 hu nd hn)⟩) (by omega) st0
end Go.Proofs.YtobelgghegmhhaaGreatDoor