/- A part of the proof: SLaw10b, RDec10, SRef10b, PSch1, LSchemeInst. -/
import Derived.Test.YtobelgghegmhhaaGreatDoorM8
import Derived.Test.YtobelgghegmhhaaGreatDoorM12
import Derived.Test.YtobelgghegmhhaaGreatDoorM14
set_option linter.unusedVariables false
set_option linter.unusedSimpArgs false
namespace Go.Am
open Go
mutual
theorem QgE : ∀ t : Ty, NamesTy t → NamesTy (ownTy t)
 | .mk k n s l b, h => by
   simp only [ownTy]
   exact Q3L h.name (Q8W l fun t ht => h.arg ht)
theorem Q8W : ∀ l : List Ty, (∀ t ∈ l, NamesTy t) → ∀ t ∈ ownTys l, NamesTy t
 | [], _, t, ht => by simp [ownTys] at ht
 | u :: l, h, t, ht => by
   simp only [ownTys, List.mem_cons] at ht
   rcases ht with rfl | ht
   ·exact QgE u (h u List.mem_cons_self)
   ·exact Q8W l (fun t ht => h t (List.mem_cons_of_mem _ ht)) t ht
end
mutual
theorem QgC {f : Int → Ty} (h : ∀ n, NamesTy (f n)) : ∀ t : Ty, NamesTy t → NamesTy (rebT f t)
 | .mk k n s l b, hn => by
   simp only [rebT]
   cases decide (k = 1) with
   | true => exact h n
   | false => rw [cond_false]; exact Q3L hn.name (Q8V h l (fun t ht => hn.arg ht))
theorem Q8V {f : Int → Ty} (h : ∀ n, NamesTy (f n)) : ∀ l : List Ty, (∀ t ∈ l, NamesTy t) → ∀ t ∈ rebTs f l, NamesTy t
 | [], hn, t, ht => by simp [rebTs] at ht
 | u :: l, hn, t, ht => by
   simp only [rebTs, List.mem_cons] at ht
   rcases ht with rfl | ht
   ·exact QgC h u (hn u List.mem_cons_self)
   ·exact Q8V h l (fun t ht => hn t (List.mem_cons_of_mem _ ht)) t ht
end
mutual
theorem Qi3 {f : Int → Ty} (h : ∀ n, 0 ≤ n → allTy numB (f n) = true) : ∀ t : Ty, allTy goodB t = true → allTy numB (rebT f t) = true
 | .mk k n s l b, hg => by
   simp only [allTy, Bool.and_eq_true] at hg
   simp only [rebT]
   cases hk : decide (k = 1) with
   | true => exact h n (Q1Q hg.1 hk).1
   | false =>
     obtain ⟨-, rfl, -⟩ := Q3G hg.1 hk
     show (numI 0 && allTys numB (rebTs f l)) = true
     rw [QaJ h l hg.2]; rfl
theorem QaJ {f : Int → Ty} (h : ∀ n, 0 ≤ n → allTy numB (f n) = true) : ∀ l : List Ty, allTys goodB l = true → allTys numB (rebTs f l) = true
 | [], _ => rfl
 | t :: l, hg => by
   simp only [allTys, Bool.and_eq_true] at hg
   simp only [rebTs, allTys, Qi3 h t hg.1, QaJ h l hg.2, Bool.and_self]
end
theorem Qgs (vars : Int) (t : Ty) (l : List Ty) : (instT vars t l).1.size ≤ 256 := by
 unfold instT
 cases (!rightSB vars t || (!decide ((l.length : Int) = vars) || !l.all rightTyB)) with
 | true => exact (show zeroTy.size ≤ 256 by decide)
 | false =>
   simp only [cond_false]
   cases h : decide ((putTy t l).size > 256) with
   | true => exact (show zeroTy.size ≤ 256 by decide)
   | false => have := of_decide_eq_false h; simp only [cond_false]; omega
end Go.Am
namespace Go.Proofs.YtobelgghegmhhaaGreatDoor
open Go Go.Am
set_option linter.unusedVariables false
set_option maxRecDepth 4000
section
variable {H : Type}
def GTyN (b : Nat) (t : Ty) : Prop := GTy b t ∧ allTy numB t = true
def GTysN (b : Nat) (l : List Ty) : Prop := GTys b l ∧ allTys numB l = true
theorem GTysN.nil : GTysN 0 [] := ⟨GTys.nil, rfl⟩
theorem GTysN.cons (m k : Nat) (t : Ty) (L : List Ty) (h : GTyN m t) (g : GTysN k L) : GTysN (m + k) (t :: L) :=
 ⟨GTys.cons m k t L h.1 g.1, by simp only [allTys, h.2, g.2, Bool.and_self]⟩
theorem Q9I : ∀ (n : Nat) (d : DataW H) l, conv C.ti n Q3 d = some l → Rows.uptoBulk d < 2^30 → ∃ t : Ty, l = t.cells ∧ GTyN (Rows.uptoBulk d) t
 | 0, d, l, h, _ => by simp [conv] at h
 | 1, d, l, h, _ => by
   obtain ⟨parts, ls, rfl, hf, rfl⟩ := Q4A Qg0 h
   rcases parts with _ | ⟨d1, _ | ⟨d2, _ | ⟨d3, _ | ⟨d4, _ | _⟩⟩⟩⟩ <;> rcases ls with _ | ⟨l1, _ | ⟨l2, _ | ⟨l3, _ | ⟨l4, _ | _⟩⟩⟩⟩ <;> simp only [Fields, and_false] at hf
   simp [conv] at hf
 | n + 2, d, l, h, hb => by
   obtain ⟨parts, ls, rfl, hf, rfl⟩ := Q4A Qg0 h
   rcases parts with _ | ⟨d1, _ | ⟨d2, _ | ⟨d3, _ | ⟨d4, _ | _⟩⟩⟩⟩ <;> rcases ls with _ | ⟨l1, _ | ⟨l2, _ | ⟨l3, _ | ⟨l4, _ | _⟩⟩⟩⟩ <;> simp only [Fields, and_false] at hf
   obtain ⟨c1, c2, c3, c4, -⟩ := hf
   simp only [Rows.uptoBulk, Rows.uptoBulkAll] at hb ⊢
   obtain ⟨k, rfl, rfl, w1⟩ := Q7Y QeX c1
   obtain ⟨m, rfl, rfl, w2⟩ := Q7Y Q1l c2
   obtain ⟨s, rfl, rfl⟩ := QhC Qg c3
   simp only [Rows.uptoBulk] at hb ⊢
   obtain ⟨L, b, k', rfl, hL, hk⟩ := Qb1 Qc0 Q7W GTysN.nil GTysN.cons (fun d l h hb => Q9I n d l h hb) d4 l4 c4 (by omega)
   refine ⟨.mk k m s L b, by rw [Ty.cells_mk]; rfl, ⟨by have := hL.1.1; simp only [Ty.size]; omega, fun a nd hn => ?_⟩, ?_⟩
   ·simp only [nodesTy, List.mem_cons] at hn
    rcases hn with rfl | hn
    ·simp only [TNode.ok, Ty.name]; omega
    ·exact hL.1.2 a nd hn
   ·have hm := wf64 w2
    show (numI m && allTys numB L) = true
    rw [hL.2, QcQ.2 hm]; rfl
theorem QhD (n : Nat) (d : DataW H) (l : List AV) (h : conv C.ti n Q6 d = some l) (hb : Rows.uptoBulk d < 2^30) : ∃ L b, l = [encS b (L.map Ty.enc)] ∧ GTysN (Rows.uptoBulk d) L := by
 cases n with
 | zero => simp [conv] at h
 | succ n =>
   obtain ⟨L, b, k, h1, h2, h3⟩ := Qb1 Qc0 Q7W GTysN.nil GTysN.cons (fun d l h hb => Q9I n d l h hb) d l h hb
   exact ⟨L, b, h1, ⟨by have := h2.1.1; omega, h2.1.2⟩, h2.2⟩
def GSch (b : Nat) (x : Sch) : Prop := GTyN b x.ty ∧ -9223372036854775808 ≤ x.vars ∧ x.vars ≤ 9223372036854775807
theorem Qif : (C.ti Q8).k = .struct [(0, Q1), (1, Q3)] := by kernel_rfl
theorem GTyN.weaken {b b' : Nat} {t : Ty} (h : GTyN b t) (hb : b ≤ b') : GTyN b' t := ⟨⟨Nat.le_trans h.1.1 hb, h.1.2⟩, h.2⟩
theorem Qfa (n : Nat) (d : DataW H) (l : List AV) (h : conv C.ti n Q8 d = some l) (hb : Rows.uptoBulk d < 2^30) : ∃ x : Sch, l = x.cells ∧ GSch (Rows.uptoBulk d) x := by
 cases n with
 | zero => simp [conv] at h
 | succ n =>
   obtain ⟨parts, ls, rfl, hf, rfl⟩ := Q4A Qif h
   rcases parts with _ | ⟨e1, _ | ⟨e2, _ | _⟩⟩ <;> rcases ls with _ | ⟨m1, _ | ⟨m2, _ | _⟩⟩ <;> simp only [Fields, and_false] at hf
   obtain ⟨c7, c8, -⟩ := hf
   simp only [Rows.uptoBulk, Rows.uptoBulkAll] at hb ⊢
   obtain ⟨vars, rfl, rfl, w7⟩ := Q7Y Q1l c7
   simp only [Rows.uptoBulk] at hb ⊢
   obtain ⟨t, rfl, ht⟩ := Q9I n e2 m2 c8 (by omega)
   have hw := wf64 w7
   exact ⟨⟨vars, t⟩, by simp [Sch.cells], ht.weaken (by omega), hw.1, hw.2⟩
end
end Go.Proofs.YtobelgghegmhhaaGreatDoor
namespace Go.Am
open Go
def inst10 (vars : Int) (t : Ty) (l : List Ty) : Ty × Int :=
 bif !rightSB vars t || (!decide ((l.length : Int) = vars) || !l.all rightTyB) then (zeroTy, 1)
 else bif decide (sizeR l t > 256) then (zeroTy, 4) else (put10 l t, 0)
end Go.Am
namespace Go.Proofs.YtobelgghegmhhaaGreatDoor
open Go Go.Am
set_option linter.unusedVariables false
set_option maxRecDepth 4000
theorem Q4k (vars : Int) (t : Ty) (l : List Ty) (v : AV) (hv : (Slot.val v).list? = some (l.map Ty.enc)) (hl : l.length < 2^28) (hls : ∀ u ∈ l, u.size < 2^28 ∧ NamesTy u) (ht : t.size < 2^28) (hp : allTy (varB fun n => decide (0 ≤ n)) t = true) (s0 : St) : ∀ (suf pre : List Ty) (s : St) (i : Nat), Grew s0 s → pre ++ suf = l → i = pre.length →
  Ret (Q0J (.val v) ((AV.int .i64 vars :: t.cells).map .val) [.val (.int .i64 0), .val (.int .i64 0), .val (.str []), .val .nils] (.val (.int .i64 l.length)) (.val (.int .i64 i)) s) s0
   (bif !suf.all rightTyB then .tup [zeroTy.enc, .int .i64 1] else bif decide (sizeR l t > 256) then .tup [zeroTy.enc, .int .i64 4] else .tup [(put10 l t).enc, .int .i64 0])
 | [], pre, s, i, g, h, hi => by
   subst hi
   have c := Ty.cells_eq t
   obtain ⟨s1, e1, g1⟩ := Q4n l v hv hl (fun u hu => (hls u hu).1) t.size t (Nat.le_refl _) ht hp s
   obtain ⟨s2, e2, g2⟩ := Q6D l v hv (by omega) t.size t (Nat.le_refl _) ht hp s1
   have cp := Ty.cells_eq (put10 l t)
   have hg : decide ((sizeR l t : Int) > 256) = decide (sizeR l t > 256) := by
    by_cases hq : sizeR l t > 256
    ·rw [decide_eq_true hq, decide_eq_true (by omega)]
    ·rw [decide_eq_false hq, decide_eq_false (by omega)]
   rw [Q3R]
   simp only [Ty.enc, c, cp] at e1 e2
   simp only [go_sem, Nat.reduceAdd, Nat.reduceLeDiff, Qi (by simpa using h), c, e1, hg, List.all_nil]
   cases hc : decide (sizeR l t > 256) with
   | true => simp only [go_sem]; exact ⟨s1, rfl, g.trans g1⟩
   | false =>
     simp only [go_sem, Nat.reduceAdd, Nat.reduceLeDiff, e2]
     exact ⟨s2, by simp only [Ty.enc, cp], (g.trans g1).trans g2⟩
 | u :: suf, pre, s, i, g, h, hi => by
   subst hi
   have c := Ty.cells_eq t
   obtain ⟨f1, f2, f3⟩ := Qe hv h (by omega) (Ty.cells_len u) (by decide)
   obtain ⟨h1, h2⟩ := hls u (by rw [← h]; simp)
   obtain ⟨s1, e1, g1⟩ := Q3Q u s h1 h2
   rw [Q3R]
   cases hr : rightTyB u with
   | true =>
     rw [hr] at e1
     have ih := Q4k vars t l v hv hl hls ht hp s0 suf (pre ++ [u]) s1 (pre.length + 1) (g.trans g1) (by simpa using h) (by simp)
     simp only [go_sem, Nat.reduceAdd, Nat.reduceLeDiff, c, f1, f2, f3, e1, List.all_cons, hr] at ih ⊢
     exact ih
   | false =>
     rw [hr] at e1
     simp only [go_sem, Nat.reduceAdd, Nat.reduceLeDiff, c, f1, f2, f3, e1, List.all_cons, hr]
     exact ⟨s1, rfl, g.trans g1⟩
theorem Q9c (vars : Int) (t : Ty) (l : List Ty) (nl : Bool) (s : St) (h : t.size < 2^28) (hn : NamesTy t) (hl : l.length < 2^28) (hls : ∀ u ∈ l, u.size < 2^28 ∧ NamesTy u) (hp : rightSB vars t = true → allTy (varB fun n => decide (0 ≤ n)) t = true) :
  Ret (cw (.f Q24) [.agg (.int .i64 vars :: t.cells), encS nl (l.map Ty.enc)] s) s (.tup [(inst10 vars t l).1.enc, .int .i64 (inst10 vars t l).2]) := by
 obtain ⟨s1, e1, g1⟩ := Q8c vars t s h hn
 have c := Ty.cells_eq t
 have z1 : ∀ s' : St, Grew s s' → Ret (some (.ret (.val (.tup [zeroTy.enc, .int .i64 1])), s')) s (.tup [zeroTy.enc, .int .i64 1]) := fun s' g => ⟨s', rfl, g⟩
 rw [Qby]
 unfold inst10
 cases hr : rightSB vars t with
 | false =>
   rw [hr] at e1
   simp only [go_sem, Nat.reduceAdd, Nat.reduceLeDiff, c] at e1 ⊢
   simp only [go_sem, e1, Qb]
   exact z1 s1 g1
 | true =>
   rw [hr] at e1
   cases hv : decide ((l.length : Int) = vars) with
   | false =>
     simp only [go_sem, Nat.reduceAdd, Nat.reduceLeDiff, c] at e1 ⊢
     simp only [go_sem, e1, Qb, List.length_map, hv]
     exact z1 s1 g1
   | true =>
     have e2 := Q4k vars t l (encS nl (l.map Ty.enc)) (Qb _ _) hl hls h (hp hr) s l [] s1 0 g1 rfl rfl
     rw [show ((0 : Nat) : Int) = 0 from rfl] at e2
     have e3 : (AV.tup [(bif !true || (!true || !l.all rightTyB) then (zeroTy, (1 : Int)) else bif decide (sizeR l t > 256) then (zeroTy, 4) else (put10 l t, 0)).1.enc, .int .i64 (bif !true || (!true || !l.all rightTyB) then (zeroTy, (1 : Int)) else bif decide (sizeR l t > 256) then (zeroTy, 4) else (put10 l t, 0)).2]) = (bif !l.all rightTyB then .tup [zeroTy.enc, .int .i64 1] else bif decide (sizeR l t > 256) then .tup [zeroTy.enc, .int .i64 4] else .tup [(put10 l t).enc, .int .i64 0]) := by
      cases l.all rightTyB <;> cases decide (sizeR l t > 256) <;> rfl
     rw [e3]
     simp only [go_sem, Nat.reduceAdd, Nat.reduceLeDiff, c] at e1 e2 ⊢
     simp only [go_sem, e1, Qb, List.length_map, hv]
     exact e2
end Go.Proofs.YtobelgghegmhhaaGreatDoor
namespace Go.Am
open Go
mutual
theorem QcX : ∀ t : Ty, eqTy (ownTy t) t = true
 | .mk k n s l b => by simp only [ownTy, eqTy, QaM l, decide_true, Bool.and_self]
theorem QaM : ∀ l : List Ty, eqTys (ownTys l) l = true
 | [] => by simp only [ownTys, eqTys]
 | t :: l => by simp only [ownTys, eqTys, QcX t, QaM l, Bool.and_self]
end
mutual
theorem QeO (l : List Ty) : ∀ t : Ty, allTy goodB t = true → eqTy (chTy (toPut l) t ()).1 (put10 l t) = true ∧ (chTy (toPut l) t ()).1.size = sizeR l t
 | .mk k n s a b, h => by
   simp only [allTy, Bool.and_eq_true] at h
   simp only [chTy, put10, sizeR]
   cases hk : decide (k = 1) with
   | true =>
     obtain ⟨h0, rfl, rfl⟩ := Q00 h.1 (of_decide_eq_true hk)
     have hk1 := of_decide_eq_true hk
     subst hk1
     simp only [cond_true, toPut, Bool.true_and]
     by_cases hn : n < l.length
     ·rw [if_pos ⟨h0, hn⟩, decide_eq_true hn]
      exact ⟨QcX _, Q5s _⟩
     ·rw [if_neg (fun h => hn h.2), decide_eq_false hn]
      simp [tvar, eqTy, eqTys, Ty.size, Ty.sizes, sizesR]
   | false =>
     obtain ⟨h1, h2⟩ := Qd5 l a h.2
     simp only [cond_false, Bool.false_and, eqTy, h1, decide_true, Bool.and_self, Ty.size, h2, true_and]
     omega
theorem Qd5 (l : List Ty) : ∀ a : List Ty, allTys goodB a = true → eqTys (chTys (toPut l) a ()).1 (put10s l a) = true ∧ Ty.sizes (chTys (toPut l) a ()).1 = sizesR l a
 | [], _ => by simp [chTys, put10s, eqTys, Ty.sizes, sizesR]
 | t :: a, h => by
   simp only [allTys, Bool.and_eq_true] at h
   obtain ⟨h1, h2⟩ := QeO l t h.1
   obtain ⟨h3, h4⟩ := Qd5 l a h.2
   simp only [chTys, put10s, eqTys, Ty.sizes, sizesR, h1, h2]
   exact ⟨by rw [show (chTy (toPut l) t ()).2 = () from rfl, h3]; rfl, by rw [show (chTy (toPut l) t ()).2 = () from rfl, h4]⟩
end
theorem QhS (vars : Int) (t : Ty) (l : List Ty) : (instT vars t l).2 = (inst10 vars t l).2 ∧ eqTy (instT vars t l).1 (inst10 vars t l).1 = true := by
 unfold instT inst10
 cases hr : rightSB vars t with
 | false => exact ⟨rfl, Q4a _⟩
 | true =>
   have hg : allTy goodB t = true := by
    unfold rightSB rightTyB at hr
    simp only [Bool.and_eq_true] at hr
    exact hr.1.2
   obtain ⟨h1, h2⟩ := QeO l t hg
   have h2' : (putTy t l).size = sizeR l t := h2
   cases (!decide ((l.length : Int) = vars) || !l.all rightTyB) with
   | true => exact ⟨rfl, Q4a _⟩
   | false =>
     rw [h2']
     cases decide (sizeR l t > 256) with
     | true => exact ⟨rfl, Q4a _⟩
     | false => exact ⟨rfl, h1⟩
end Go.Am
namespace Go.Proofs.YtobelgghegmhhaaGreatDoor
open Go Go.Am
set_option linter.unusedVariables false
set_option maxRecDepth 4000
theorem Q4P (x : Sch) (l : List Ty) (nl : Bool) (hx : SchOK x) (hl : l.length < 2^28) (hls : ∀ u ∈ l, u.size < 2^28 ∧ NamesTy u) (hz : (putTy x.ty l).size < 2^40) (s : St) : Ret (cw (.f Q10) [x.enc, encS nl (l.map Ty.enc)] s) s (.bool true) := by
 have e1 := Q9O x l (encS nl (l.map Ty.enc)) (Qb _ _) (by omega) (fun t ht => ⟨by have := (hls t ht).1; omega, (hls t ht).2⟩) hx s
 have c := Ty.cells_eq x.ty
 rw [Q5T]
 cases hf : fewL x l with
 | false =>
   obtain ⟨s2, e2, g2⟩ := Q3J s
   rw [hf] at e1
   simp only [Sch.enc, Sch.cells, c] at e1 ⊢
   simp only [go_sem, Nat.reduceAdd, Nat.reduceLeDiff, e1, e2]
   exact ⟨s2, rfl, g2⟩
 | true =>
   obtain ⟨s2, e2, g2⟩ := Q3T x.vars x.ty l nl s hx.size hx.names (Z6 _ hx.size) hl (fun u hu => ⟨by have := (hls u hu).1; omega, (hls u hu).2, Z6 u (hls u hu).1⟩) hz
   obtain ⟨s3, e3, g3⟩ := Q9c x.vars x.ty l nl s2 hx.size hx.names hl hls (fun hr => Qd3 _ (Q1M (Q2l hr).1))
   obtain ⟨h1, h2⟩ := QhS x.vars x.ty l
   have e4 := Q4i (instT x.vars x.ty l).1 (inst10 x.vars x.ty l).1 s3 (by have := Qgs x.vars x.ty l; omega)
   obtain ⟨s5, e5, g5⟩ := Q3J s3
   rw [h2] at e4
   rw [← h1] at e3
   rw [hf] at e1
   have cI := Ty.cells_eq (instT x.vars x.ty l).1
   have cJ := Ty.cells_eq (inst10 x.vars x.ty l).1
   simp only [Sch.enc, Sch.cells, c, Ty.enc, cI, cJ] at e1 e2 e3 e4 ⊢
   simp only [go_sem, Nat.reduceAdd, Nat.reduceLeDiff, e1, e2, e3, e4, e5, decide_true]
   exact ⟨s5, rfl, (g2.trans g3).trans g5⟩
theorem Q5m {k0 k1 : Nat} (x : Sch) (gx : GSch k0 x) (l : List Ty) (nl : Bool) (gl : GTysN k1 l) (hb : k0 + (k1 + 0) ≤ 1048576) : Ret (cw (.f Q10) [x.enc, encS nl (l.map Ty.enc)] st0) st0 (.bool true) := by
 have h1 := gx.1.1.1
 have h2 := gl.1.1
 have h3 := Ty.len_sizes l
 have hm : ∀ u ∈ l, u.size ≤ k1 := fun u hu => by have := Ty.mem_sizes hu; omega
 have h4 := QgL l k1 hm x.ty
 have h5 : x.ty.size * (k1 + 1) ≤ 1048576 * (k1 + 1) := Nat.mul_le_mul_right _ (by omega)
 have h6 : x.ty.size * (k1 + 1) < 2^40 := by
  by_cases hk : x.ty.size = 0
  ·rw [hk]; omega
  ·have : k1 + 1 ≤ 1048576 := by omega
   have h7 : x.ty.size * (k1 + 1) ≤ x.ty.size * 1048576 := Nat.mul_le_mul_left _ this
   by_cases hk1 : k1 = 0
   ·subst hk1; omega
   ·omega
 exact Q4P x l nl ⟨by omega, gx.1.1.2 0, gx.1.2⟩ (by omega) (fun u hu => ⟨by have := hm u hu; omega, fun nd hn => gl.1.2 0 nd (Q3N 0 hu nd hn)⟩) (by omega) st0
end Go.Proofs.YtobelgghegmhhaaGreatDoor