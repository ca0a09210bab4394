/- A part of the proof: SLaw10, SLaw10b, RDec10, LSchemeOrder. -/
import Derived.Test.YtobelgghegmhhaaGreatDoorM8
import Derived.Test.YtobelgghegmhhaaGreatDoorM14
set_option linter.unusedVariables false
set_option linter.unusedSimpArgs false
namespace Go.Am
open Go
theorem Qfk {t : Ty} : NamesTy t ↔ ∀ u ∈ preTy t, u.name.length < 2^40 := by
 unfold NamesTy
 rw [Q3W]
 constructor
 ·intro h u hu
  exact h _ (List.mem_map.2 ⟨u, hu, rfl⟩)
 ·intro h n hn
  obtain ⟨u, hu, rfl⟩ := List.mem_map.1 hn
  exact h u hu
theorem Q3k {k n : Int} {s : Str} {l : List Ty} {b : Bool} (h : s.length < 2^40) (g : ∀ t ∈ l, NamesTy t) : NamesTy (.mk k n s l b) := by
 intro nd hn
 simp only [nodesTy, List.mem_cons] at hn
 rcases hn with rfl | hn
 ·exact h
 ·have : ∀ (l : List Ty), (∀ t ∈ l, NamesTy t) → ∀ nd ∈ nodesTys 0 l, nd.ok := by
   intro l
   induction l with
   | nil => intro _ nd h; simp [nodesTys] at h
   | cons t l ih =>
     intro h nd hn
     simp only [nodesTys, List.mem_append] at hn
     rcases hn with hn | hn
     ·exact h t List.mem_cons_self nd hn
     ·exact ih (fun t ht => h t (List.mem_cons_of_mem _ ht)) nd hn
  exact this l g nd hn
mutual
theorem Q9G {f : Int → Ty} {p : Int → Bool} (h : ∀ n, p n = true → NamesTy (f n)) : ∀ t : Ty, NamesTy t → allTy (varB p) t = true → NamesTy (rebT f t)
 | .mk k n s l b, hn, hp => by
   simp only [allTy, Bool.and_eq_true] at hp
   simp only [rebT]
   cases hk : decide (k = 1) with
   | true => exact h n (Q1G hp.1 hk)
   | false =>
     rw [cond_false]
     exact Q3k hn.name (Q89 h l (fun t ht => hn.arg ht) hp.2)
theorem Q89 {f : Int → Ty} {p : Int → Bool} (h : ∀ n, p n = true → NamesTy (f n)) : ∀ l : List Ty, (∀ t ∈ l, NamesTy t) → allTys (varB p) l = true → ∀ t ∈ rebTs f l, NamesTy t
 | [], _, _, t, ht => by simp [rebTs] at ht
 | u :: l, hn, hp, t, ht => by
   simp only [allTys, Bool.and_eq_true] at hp
   simp only [rebTs, List.mem_cons] at ht
   rcases ht with rfl | ht
   ·exact Q9G h u (hn u List.mem_cons_self) hp.1
   ·exact Q89 h l (fun t ht => hn t (List.mem_cons_of_mem _ ht)) hp.2 t ht
end
theorem Qed (n : Int) : NamesTy (tvar n) := Q3k (by decide) (by simp)
theorem QcM {vars n : Int} (hv : 0 ≤ vars ∧ vars ≤ 256) (hn : 0 ≤ n ∧ n ≤ 9223372036854775807) : NamesTy (showF vars n) := by
 unfold showF
 cases hd : decide (n < vars) with
 | true => exact Qed n
 | false =>
   have hd' := of_decide_eq_false hd
   have := (Qbi (m := n - vars) (by omega) (by omega)).2
   unfold keptN at this
   exact Q3k (by omega) (by simp)
def fewL (x : Sch) (l : List Ty) : Bool := l.all (fun t => decide (fewT t 300 0 ≥ 0)) && (decide ((l.length : Int) < 300) && decide (fewT x.ty 400 0 ≥ 0))
def fnK (a b : Ty) : Ty := .mk 2 0 [45, 62] [a, b] false
def kOf : Ty := fnK (tvar 3) (fnK (tvar 5) (tvar 3))
def kShow : Ty := rebT (numF [3, 5]) kOf
def kA : Sch := ⟨2, fnK (tvar 0) (tvar 1)⟩
def kB : Sch := ⟨1, fnK (tvar 0) (tvar 0)⟩
def kInt10 : Ty := .mk 2 0 [105, 110, 116] [] true
theorem Qf9 : rightTyB kOf = true := by decide +kernel
theorem Qkg : ofP kOf [5] = (1, kShow) := by
 unfold ofP
 rw [Qf9]
 rfl
theorem Qe6 : schemeT 1 kShow = [39, 97, 32, 45, 62, 32, 95, 97, 32, 45, 62, 32, 39, 97] := by
 rw [QgU 1 kShow (fun _ => by unfold VarOK; decide +kernel)]
 decide +kernel
theorem kMore1 : moreP 2 kA.ty 1 kB.ty = true := by decide +kernel
theorem kMore2 : moreP 1 kB.ty 2 kA.ty = false := by decide +kernel
theorem kInst1 : (instT 1 kB.ty [kInt10]).2 = 0 := by decide +kernel
theorem kInst2 : eqTy (instT 1 kB.ty [kInt10]).1 (fnK kInt10 kInt10) = true := by decide +kernel
def schB (x : Sch) : Bool := decide (x.ty.size < 2^28) && (((preTy x.ty).all fun u => decide (u.name.length < 2^40)) && allTy numB x.ty)
theorem Q4g {x : Sch} (h : schB x = true) : SchOK x := by
 simp only [schB, Bool.and_eq_true, decide_eq_true_eq, List.all_eq_true] at h
 exact ⟨h.1, Qfk.2 h.2.1, h.2.2⟩
end Go.Am
namespace Go.Proofs.YtobelgghegmhhaaGreatDoor
open Go Go.Am
set_option linter.unusedVariables false
set_option maxRecDepth 4000
theorem Qid (x : Sch) (h : SchOK x) (s : St) : Ret (cw (.f Q1A) [x.enc] s) s (.str (schemeT x.vars x.ty)) := by
 obtain ⟨vars, t⟩ := x
 cases hr : rightSB vars t with
 | false =>
   obtain ⟨s1, e1, g1⟩ := Z9 vars t s (by have := h.size; simp only at this; omega) h.names
   have c := Ty.cells_eq t
   change cw _ _ _ = some (.ret (.val (.bool (rightSB vars t))), s1) at e1
   rw [Q4h]
   unfold schemeT
   rw [hr] at e1 ⊢
   simp only [go_sem, Nat.reduceAdd, Nat.reduceLeDiff, Sch.enc, Sch.cells, c] at e1 ⊢
   simp only [go_sem, e1]
   exact ⟨s1, rfl, g1⟩
 | true =>
   have r := Q0z hr
   have hv := h.var r.1
   exact Q7o vars t s h.size h.names (ZN t h.size) (Q9G (p := fun n => decide (0 ≤ n) && decide (n ≤ 9223372036854775807)) (fun n hn => QcM r.2 (by simpa using hn)) t h.names hv) hv
theorem Qgp {l : List AV} {off sz : Nat} {m : List AV} (h : sz = 1) (k : off + 1 ≤ l.length) (r : List (Nat × Nat × Slot)) : fillS l ((off, sz, .full m) :: r) = fillS (l.take off ++ ([.sl m] ++ l.drop (off + 1))) r := by
 subst h
 exact QdX (x := .full m) (v := .sl m) rfl rfl rfl k r
theorem Q23 (n : Int) (s : St) : cw (.f ZQ) [.int .i64 n] s = some (.ret (.val (tvar n).enc), s) := by
 rw [Qe8]
 simp only [go_sem, Nat.reduceAdd, Nat.reduceLeDiff, tvar, Ty.enc]
theorem Q0C (a b : Ty) (s : St) : cw (.f Q0r) [a.enc, b.enc] s = some (.ret (.val (fnK a b).enc), s) := by
 have ca := Ty.cells_eq a
 have cb := Ty.cells_eq b
 rw [QcI]
 simp only [go_sem, Nat.reduceAdd, Nat.reduceLeDiff, fnK, Ty.enc, ca, cb, Qgp]
theorem Q49 (x : Sch) (l : List Ty) (y : Slot) (hy : y.list? = some (l.map Ty.enc)) (hl : l.length < 2^40) (hs : ∀ t ∈ l, t.size < 2^40 ∧ NamesTy t) (hx : x.ty.size < 2^40 ∧ NamesTy x.ty) (s : St) : ∀ (suf pre : List Ty) (i : Nat), pre ++ suf = l → i = pre.length →
  Q14 y (x.cells.map .val) (.val (.int .i64 l.length)) (.val (.int .i64 i)) s = some (.ret (.val (.bool (suf.all (fun t => decide (fewT t 300 0 ≥ 0)) && (decide ((l.length : Int) < 300) && decide (fewT x.ty 400 0 ≥ 0))))), s)
 | [], pre, i, h, hi => by
   subst hi
   have c := Ty.cells_eq x.ty
   have e1 := Q7C x.ty 400 (by decide) s hx.1 hx.2
   rw [Q3E]
   simp only [Ty.enc, c] at e1
   cases hd : decide ((l.length : Int) < 300) with
   | true => simp only [go_sem, Nat.reduceAdd, Nat.reduceLeDiff, Sch.cells, c, Qm (by simpa using h), hy, List.length_map, hd, e1, List.all_nil]
   | false => simp only [go_sem, Nat.reduceAdd, Nat.reduceLeDiff, Sch.cells, c, Qm (by simpa using h), hy, List.length_map, hd, List.all_nil]
 | t :: suf, pre, i, h, hi => by
   subst hi
   obtain ⟨f1, f2, f3⟩ := Qf hy h (by omega) (Ty.cells_len t) (by decide)
   have ht := hs t (by rw [← h]; simp)
   have e1 := Q7C t 300 (by decide) s ht.1 ht.2
   rw [Q3E, List.all_cons]
   cases hd : decide (fewT t 300 0 ≥ 0) with
   | false =>
     rw [hd] at e1
     simp only [go_sem, Nat.reduceLeDiff, f1, f2, f3, e1]
   | true =>
     rw [hd] at e1
     have ih := Q49 x l y hy hl hs hx s suf (pre ++ [t]) (pre.length + 1) (by simpa using h) (by simp)
     simp only [go_sem, Nat.reduceLeDiff, f1, f2, f3, e1] at ih ⊢
     exact ih
theorem Q2l (x : Sch) (l : List Ty) (v : AV) (hv : (Slot.val v).list? = some (l.map Ty.enc)) (hl : l.length < 2^40) (hs : ∀ t ∈ l, t.size < 2^40 ∧ NamesTy t) (hx : SchOK x) (s : St) : cw (.f Q0G) [x.enc, v] s = some (.ret (.val (.bool (fewL x l))), s) := by
 have e1 := Q49 x l (.val v) hv hl hs ⟨by have := hx.size; omega, hx.names⟩ s l [] 0 rfl rfl
 rw [show ((0 : Nat) : Int) = 0 from rfl] at e1
 have c := Ty.cells_eq x.ty
 rw [Qbj]
 simp only [go_sem, Nat.reduceAdd, Sch.enc, Sch.cells, c, hv, List.length_map] at e1 ⊢
 exact e1
theorem Q0x (s : St) : Ret (cw (.f Q1w) [] s) s (.bool true) := by
 have v3 := fun s => Q23 3 s
 have v5 := fun s => Q23 5 s
 have v0 := fun s => Q23 0 s
 have v1 := fun s => Q23 1 s
 have f1 := fun s => Q0C (tvar 5) (tvar 3) s
 have f2 := fun s => Q0C (tvar 3) (fnK (tvar 5) (tvar 3)) s
 have f3 := fun s => Q0C (tvar 0) (tvar 1) s
 have f4 := fun s => Q0C (tvar 0) (tvar 0) s
 have f5 := fun s => Q0C kInt10 kInt10 s
 have okOf : SchOK ⟨0, kOf⟩ := Q4g (by decide +kernel)
 have okShow : SchOK ⟨1, kShow⟩ := Q4g (by decide +kernel)
 have okA : SchOK kA := Q4g (by decide +kernel)
 have okB : SchOK kB := Q4g (by decide +kernel)
 have okI : SchOK ⟨0, kInt10⟩ := Q4g (by decide +kernel)
 obtain ⟨s1, e1, g1⟩ := Q94 kOf [5] (.sl [.int .i64 5]) rfl (by decide) s okOf.size okOf.names
 rw [Qkg] at e1
 obtain ⟨s2, e2, g2⟩ := Q7l 1 kB.ty [kInt10] false s1 okB.size okB.names (ZN _ okB.size) (by decide) (by
  intro u hu
  rw [List.mem_singleton.1 hu]
  exact ⟨by decide +kernel, okI.names, ZN _ okI.size⟩) (by decide +kernel)
 obtain ⟨s3, e3, g3⟩ := Qid ⟨1, kShow⟩ okShow s2
 obtain ⟨s4, e4, g4⟩ := QP kA kB okA okB s3
 obtain ⟨s5, e5, g5⟩ := QP kB kA okB okA s4
 have e6 := Q8i (instT 1 kB.ty [kInt10]).1 (fnK kInt10 kInt10) s5 (by decide +kernel)
 rw [kInst2] at e6
 rw [kInst1] at e2
 rw [show schemeT (Sch.mk 1 kShow).vars (Sch.mk 1 kShow).ty = _ from Qe6] at e3
 rw [show moreP kA.vars kA.ty kB.vars kB.ty = true from kMore1] at e4
 rw [show moreP kB.vars kB.ty kA.vars kA.ty = false from kMore2] at e5
 have cI := Ty.cells_eq (instT 1 kB.ty [kInt10]).1
 have cS := Ty.cells_eq kShow
 generalize hI : (instT 1 kB.ty [kInt10]).1 = I at *
 generalize hS : kShow = S at *
 simp only [kOf, kA, kB, kInt10, fnK, tvar, Sch.enc, Sch.cells, Ty.enc, Ty.cells_mk, List.map_cons, List.map_nil, QdV, Qgm, cI, cS] at v3 v5 v0 v1 f1 f2 f3 f4 f5 e1 e2 e3 e4 e5 e6
 refine ⟨s5, ?_, (((g1.trans g2).trans g3).trans g4).trans g5⟩
 rw [Q8T]
 simp only [go_sem, Nat.reduceAdd, Nat.reduceLeDiff, v3, v5, v0, v1, f1, f2, f3, f4, f5, e1, e2, e3, e4, e5, e6]
end Go.Proofs.YtobelgghegmhhaaGreatDoor
namespace Go.Am
open Go
mutual
theorem Qfl : ∀ t : Ty, NamesTy t → NamesTy (ownTy t)
 | .mk k n s l b, h => by
   simp only [ownTy]
   exact Q3k h.name (Q88 l fun t ht => h.arg ht)
theorem Q88 : ∀ l : List Ty, (∀ t ∈ l, NamesTy t) → ∀ t ∈ ownTys l, NamesTy t
 | [], _, t, ht => by simp [ownTys] at ht
 | u :: l, h, t, ht => by
   simp only [ownTys, List.mem_cons] at ht
   rcases ht with rfl | ht
   ·exact Qfl u (h u List.mem_cons_self)
   ·exact Q88 l (fun t ht => h t (List.mem_cons_of_mem _ ht)) t ht
end
mutual
theorem Qfj {f : Int → Ty} (h : ∀ n, NamesTy (f n)) : ∀ t : Ty, NamesTy t → NamesTy (rebT f t)
 | .mk k n s l b, hn => by
   simp only [rebT]
   cases decide (k = 1) with
   | true => exact h n
   | false => rw [cond_false]; exact Q3k hn.name (Q87 h l (fun t ht => hn.arg ht))
theorem Q87 {f : Int → Ty} (h : ∀ n, NamesTy (f n)) : ∀ l : List Ty, (∀ t ∈ l, NamesTy t) → ∀ t ∈ rebTs f l, NamesTy t
 | [], hn, t, ht => by simp [rebTs] at ht
 | u :: l, hn, t, ht => by
   simp only [rebTs, List.mem_cons] at ht
   rcases ht with rfl | ht
   ·exact Qfj h u (hn u List.mem_cons_self)
   ·exact Q87 h l (fun t ht => hn t (List.mem_cons_of_mem _ ht)) t ht
end
mutual
theorem QgF {f : Int → Ty} (h : ∀ n, 0 ≤ n → allTy numB (f n) = true) : ∀ t : Ty, allTy goodB t = true → allTy numB (rebT f t) = true
 | .mk k n s l b, hg => by
   simp only [allTy, Bool.and_eq_true] at hg
   simp only [rebT]
   cases hk : decide (k = 1) with
   | true => exact h n (Q13 hg.1 hk).1
   | false =>
     obtain ⟨-, rfl, -⟩ := Q3g hg.1 hk
     show (numI 0 && allTys numB (rebTs f l)) = true
     rw [Q9I h l hg.2]; rfl
theorem Q9I {f : Int → Ty} (h : ∀ n, 0 ≤ n → allTy numB (f n) = true) : ∀ l : List Ty, allTys goodB l = true → allTys numB (rebTs f l) = true
 | [], _ => rfl
 | t :: l, hg => by
   simp only [allTys, Bool.and_eq_true] at hg
   simp only [rebTs, allTys, QgF h t hg.1, Q9I h l hg.2, Bool.and_self]
end
end Go.Am
namespace Go.Proofs.YtobelgghegmhhaaGreatDoor
open Go Go.Am
set_option linter.unusedVariables false
set_option maxRecDepth 4000
section
variable {H : Type}
def GTyN (b : Nat) (t : Ty) : Prop := GTy b t ∧ allTy numB t = true
def GTysN (b : Nat) (l : List Ty) : Prop := GTys b l ∧ allTys numB l = true
theorem GTysN.nil : GTysN 0 [] := ⟨GTys.nil, rfl⟩
theorem GTysN.cons (m k : Nat) (t : Ty) (L : List Ty) (h : GTyN m t) (g : GTysN k L) : GTysN (m + k) (t :: L) :=
 ⟨GTys.cons m k t L h.1 g.1, by simp only [allTys, h.2, g.2, Bool.and_self]⟩
theorem Qdd : ∀ (n : Nat) (d : DataW H) l, conv C.ti n Q3 d = some l → Rows.uptoBulk d < 2^30 → ∃ t : Ty, l = t.cells ∧ GTyN (Rows.uptoBulk d) t
 | 0, d, l, h, _ => by simp [conv] at h
 | 1, d, l, h, _ => by
   obtain ⟨parts, ls, rfl, hf, rfl⟩ := Q3S QeF h
   rcases parts with _ | ⟨d1, _ | ⟨d2, _ | ⟨d3, _ | ⟨d4, _ | _⟩⟩⟩⟩ <;> rcases ls with _ | ⟨l1, _ | ⟨l2, _ | ⟨l3, _ | ⟨l4, _ | _⟩⟩⟩⟩ <;> simp only [Fields, and_false] at hf
   simp [conv] at hf
 | n + 2, d, l, h, hb => by
   obtain ⟨parts, ls, rfl, hf, rfl⟩ := Q3S QeF h
   rcases parts with _ | ⟨d1, _ | ⟨d2, _ | ⟨d3, _ | ⟨d4, _ | _⟩⟩⟩⟩ <;> rcases ls with _ | ⟨l1, _ | ⟨l2, _ | ⟨l3, _ | ⟨l4, _ | _⟩⟩⟩⟩ <;> simp only [Fields, and_false] at hf
   obtain ⟨c1, c2, c3, c4, -⟩ := hf
   simp only [Rows.uptoBulk, Rows.uptoBulkAll] at hb ⊢
   obtain ⟨k, rfl, rfl, w1⟩ := Q79 QdE c1
   obtain ⟨m, rfl, rfl, w2⟩ := Q79 Q1f c2
   obtain ⟨s, rfl, rfl⟩ := Qgh Qh c3
   simp only [Rows.uptoBulk] at hb ⊢
   obtain ⟨L, b, k', rfl, hL, hk⟩ := QfF Qg4 QaL GTysN.nil GTysN.cons (fun d l h hb => Qdd n d l h hb) d4 l4 c4 (by omega)
   refine ⟨.mk k m s L b, by rw [Ty.cells_mk]; rfl, ⟨by have := hL.1.1; simp only [Ty.size]; omega, fun a nd hn => ?_⟩, ?_⟩
   ·simp only [nodesTy, List.mem_cons] at hn
    rcases hn with rfl | hn
    ·simp only [TNode.ok, Ty.name]; omega
    ·exact hL.1.2 a nd hn
   ·have hm := wf64 w2
    show (numI m && allTys numB L) = true
    rw [hL.2, QbF.2 hm]; rfl
def GSch (b : Nat) (x : Sch) : Prop := GTyN b x.ty ∧ -9223372036854775808 ≤ x.vars ∧ x.vars ≤ 9223372036854775807
theorem QgS : (C.ti Q6).k = .struct [(0, Q1), (1, Q3)] := by kernel_rfl
theorem GTyN.weaken {b b' : Nat} {t : Ty} (h : GTyN b t) (hb : b ≤ b') : GTyN b' t := ⟨⟨Nat.le_trans h.1.1 hb, h.1.2⟩, h.2⟩
theorem Q4z (n : Nat) (d : DataW H) (l : List AV) (h : conv C.ti n Q6 d = some l) (hb : Rows.uptoBulk d < 2^30) : ∃ x : Sch, l = x.cells ∧ GSch (Rows.uptoBulk d) x := by
 cases n with
 | zero => simp [conv] at h
 | succ n =>
   obtain ⟨parts, ls, rfl, hf, rfl⟩ := Q3S QgS h
   rcases parts with _ | ⟨e1, _ | ⟨e2, _ | _⟩⟩ <;> rcases ls with _ | ⟨m1, _ | ⟨m2, _ | _⟩⟩ <;> simp only [Fields, and_false] at hf
   obtain ⟨c7, c8, -⟩ := hf
   simp only [Rows.uptoBulk, Rows.uptoBulkAll] at hb ⊢
   obtain ⟨vars, rfl, rfl, w7⟩ := Q79 Q1f c7
   simp only [Rows.uptoBulk] at hb ⊢
   obtain ⟨t, rfl, ht⟩ := Qdd n e2 m2 c8 (by omega)
   have hw := wf64 w7
   exact ⟨⟨vars, t⟩, by simp [Sch.cells], ht.weaken (by omega), hw.1, hw.2⟩
end
end Go.Proofs.YtobelgghegmhhaaGreatDoor
namespace Go.Proofs.YtobelgghegmhhaaGreatDoor
open Go Go.Am
set_option linter.unusedVariables false
set_option maxRecDepth 4000
theorem Q8m (x : Sch) (h : SchOK x) (s : St) : Ret (cw (.f Z3) [x.enc] s) s (.bool (rightSB x.vars x.ty)) := Z9 x.vars x.ty s (by have := h.size; omega) h.names
theorem Q3U (a b d : Sch) (ha : SchOK a) (hb : SchOK b) (hd : SchOK d) (s : St) : Ret (cw (.f Q0Q) [a.enc, b.enc, d.enc] s) s (.bool true) := by
 have e1 := Q2l a [] .nils rfl (by decide) (by simp) ha s
 have e2 := Q2l b [] .nils rfl (by decide) (by simp) hb s
 have e3 := Q2l d [] .nils rfl (by decide) (by simp) hd s
 obtain ⟨s0, e0, g0⟩ := Q0x s
 have ca := Ty.cells_eq a.ty
 have cb := Ty.cells_eq b.ty
 have cd := Ty.cells_eq d.ty
 rw [Q4F]
 cases h1 : fewL a [] with
 | false =>
   rw [h1] at e1
   simp only [Sch.enc, Sch.cells, ca, cb, cd] at e1 ⊢
   simp only [go_sem, Nat.reduceAdd, Nat.reduceLeDiff, e1, e0]
   exact ⟨s0, rfl, g0⟩
 | true =>
   rw [h1] at e1
   cases h2 : fewL b [] with
   | false =>
     rw [h2] at e2
     simp only [Sch.enc, Sch.cells, ca, cb, cd] at e1 e2 ⊢
     simp only [go_sem, Nat.reduceAdd, Nat.reduceLeDiff, e1, e2, e0]
     exact ⟨s0, rfl, g0⟩
   | true =>
     rw [h2] at e2
     cases h3 : fewL d [] with
     | false =>
       rw [h3] at e3
       simp only [Sch.enc, Sch.cells, ca, cb, cd] at e1 e2 e3 ⊢
       simp only [go_sem, Nat.reduceAdd, Nat.reduceLeDiff, e1, e2, e3, e0]
       exact ⟨s0, rfl, g0⟩
     | true =>
       rw [h3] at e3
       clear e0 g0
       obtain ⟨s4, e4, g4⟩ := QP a a ha ha s
       obtain ⟨s5, e5, g5⟩ := Q8m a ha s4
       obtain ⟨s6, e6, g6⟩ := Q3n a b ha hb s5
       obtain ⟨s7, e7, g7⟩ := Q3n b a hb ha s6
       obtain ⟨s8, e8, g8⟩ := QP a b ha hb s7
       obtain ⟨s9, e9, g9⟩ := QP b d hb hd s8
       obtain ⟨s10, e10, g10⟩ := QP a d ha hd s9
       rw [Qfh] at e4
       rw [Bool.and_comm] at e7
       have htr : moreP a.vars a.ty b.vars b.ty = true → moreP b.vars b.ty d.vars d.ty = true → moreP a.vars a.ty d.vars d.ty = true := fun p q => Qec p q
       have g' := ((((g4.trans g5).trans g6).trans g7).trans g8)
       generalize rightSB a.vars a.ty = r at *
       generalize (moreP a.vars a.ty b.vars b.ty && moreP b.vars b.ty a.vars a.ty) = q at *
       have hr : (r == r) = true := by simp
       have hq : (q == q) = true := by simp
       simp only [Sch.enc, Sch.cells, ca, cb, cd] at e1 e2 e3 e4 e5 e6 e7 e8 e9 e10 ⊢
       cases h4 : moreP a.vars a.ty b.vars b.ty with
       | false =>
         obtain ⟨s0, e0, g0⟩ := Q0x s8
         rw [h4] at e8
         simp only [go_sem, Nat.reduceAdd, Nat.reduceLeDiff, e1, e2, e3, e4, e5, e6, e7, e8, e0, hr, hq]
         exact ⟨s0, rfl, g'.trans g0⟩
       | true =>
         rw [h4] at e8
         cases h5 : moreP b.vars b.ty d.vars d.ty with
         | false =>
           obtain ⟨s0, e0, g0⟩ := Q0x s9
           rw [h5] at e9
           simp only [go_sem, Nat.reduceAdd, Nat.reduceLeDiff, e1, e2, e3, e4, e5, e6, e7, e8, e9, e0, hr, hq]
           exact ⟨s0, rfl, (g'.trans g9).trans g0⟩
         | true =>
           obtain ⟨s0, e0, g0⟩ := Q0x s10
           rw [h5] at e9
           rw [htr h4 h5] at e10
           simp only [go_sem, Nat.reduceAdd, Nat.reduceLeDiff, e1, e2, e3, e4, e5, e6, e7, e8, e9, e10, e0, hr, hq]
           exact ⟨s0, rfl, ((g'.trans g9).trans g10).trans g0⟩
theorem GSch.ok {k : Nat} {x : Sch} (g : GSch k x) (h : k < 2^28) : SchOK x := ⟨by have := g.1.1.1; omega, g.1.1.2 0, g.1.2⟩
theorem Q48 {k0 k1 k2 : Nat} (a : Sch) (ga : GSch k0 a) (b : Sch) (gb : GSch k1 b) (d : Sch) (gd : GSch k2 d) (hb : k0 + (k1 + (k2 + 0)) ≤ 1048576) : Ret (cw (.f Q0Q) [a.enc, b.enc, d.enc] st0) st0 (.bool true) :=
 Q3U a b d (ga.ok (by omega)) (gb.ok (by omega)) (gd.ok (by omega)) st0
end Go.Proofs.YtobelgghegmhhaaGreatDoor