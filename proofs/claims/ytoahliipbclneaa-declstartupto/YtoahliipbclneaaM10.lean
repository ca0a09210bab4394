/- A part of the proof: STy1, STy2, SDecl1, PTy2, PDecl, SDecl2, SMap, SDecl3, PScope, SScope1. -/
import Derived.Test.YtoahliipbclneaaM3
import Derived.Test.YtoahliipbclneaaM8
import Derived.Test.YtoahliipbclneaaM9
set_option linter.unusedVariables false
set_option linter.unusedSimpArgs false
namespace Go.Proofs.Ytoahliipbclneaa
open Go Go.Am
set_option linter.unusedVariables false
set_option maxRecDepth 4000
section
variable (L V : Nat)
end
def TySameOK (t : Ty) : Prop := ∀ u s, cw (.f Q1a) [t.enc, u.enc] s = some (.ret (.val (.bool (eqTy t u))), s)
theorem Q5c (L M : List Ty) (x y : Slot) (hx : x.list? = some (L.map Ty.enc)) (hy : y.list? = some (M.map Ty.enc)) (hl : L.length < 2^40) (he : M.length = L.length) : ∀ (suf suf' pre pre' : List Ty) (s : St) (i : Nat), pre ++ suf = L → pre' ++ suf' = M → i = pre.length → pre'.length = pre.length → (∀ t ∈ suf, TySameOK t) →
  Qp y (.val (.fn Q1a [])) x (.val (.int .i64 L.length)) (.val (.int .i64 i)) s = some (.ret (.val (.bool (eqTys suf suf'))), s)
 | [], suf', pre, pre', s, i, h, g, hi, hp, H => by
   subst hi
   have : suf' = [] := by
    have h1 := congrArg List.length h
    have h2 := congrArg List.length g
    simp only [List.length_append, List.length_nil] at h1 h2
    exact List.eq_nil_of_length_eq_zero (by omega)
   subst this
   rw [Z8]; simp only [go_sem, Qd (by simpa using h), eqTys]
 | t :: suf, suf', pre, pre', s, i, h, g, hi, hp, H => by
   subst hi
   cases suf' with
   | nil =>
     have h1 := congrArg List.length h
     have h2 := congrArg List.length g
     simp only [List.length_append, List.length_nil, List.length_cons] at h1 h2
     omega
   | cons u suf' =>
     obtain ⟨f1, f2, f3⟩ := Q8 hx h (by omega) (Ty.cells_len t) (by decide)
     obtain ⟨-, g2, -⟩ := Q8 hy g (by omega) (Ty.cells_len u) (by decide)
     rw [hp] at g2
     have e1 := H t (List.mem_cons_self) u s
     have ih := Q5c L M x y hx hy hl he suf suf' (pre ++ [t]) (pre' ++ [u]) s (pre.length + 1) (by simpa using h) (by simpa using g) (by simp) (by simp [hp]) (fun w hw => H w (List.mem_cons_of_mem _ hw))
     rw [Z8]; simp only [go_sem, Nat.reduceAdd, Nat.reduceLeDiff, f1, f2, f3, g2, e1, ih, eqTys]
     cases eqTy t u <;> rfl
theorem Q9o (L M : List Ty) (v w : AV) (hv : (Slot.val v).list? = some (L.map Ty.enc)) (hw : (Slot.val w).list? = some (M.map Ty.enc)) (hl : L.length < 2^40) (H : ∀ t ∈ L, TySameOK t) (s : St) : cw (.f Qz) [v, w, .fn Q1a []] s = some (.ret (.val (.bool (eqTys L M))), s) := by
 rw [Q0X]; simp only [go_sem, hv, hw, List.length_map]
 by_cases he : M.length = L.length
 ·have h1 := Q5c L M (.val v) (.val w) hv hw hl he L M [] [] s 0 rfl rfl rfl rfl H
  rw [show ((0 : Nat) : Int) = 0 from rfl] at h1
  simp only [go_sem, decide_eq_true (show ((L.length : Int) = M.length) by omega), h1]
 ·simp only [go_sem, decide_eq_false (show ¬ ((L.length : Int) = M.length) by omega), Q4K L M (fun h => he h.symm)]
theorem Q7a : ∀ (k : Nat) (t : Ty), t.size ≤ k → WideTy t → TySameOK t
 | 0, .mk _ _ _ _ _, h, _ => by simp only [Ty.size] at h; omega
 | k + 1, .mk kd n nm l nl, h, h' => fun u s => by
   obtain ⟨k', n', nm', l', nl'⟩ := u
   simp only [Ty.size] at h
   have hl := h'.len
   have e1 := fun s => Q9o l l' (encS nl (l.map Ty.enc)) (encS nl' (l'.map Ty.enc)) (Qk _ _) (Qk _ _) (by omega) (fun t ht => by
    have := Ty.mem_sizes ht
    exact Q7a k t (by omega) (h'.arg ht)) s
   rw [QaR]
   simp only [go_sem, Nat.reduceAdd, Nat.reduceLeDiff, Ty.enc, e1, eqTy]
theorem Q9p (t : Ty) (h : WideTy t) : TySameOK t := Q7a _ t (Nat.le_refl _) h
end Go.Proofs.Ytoahliipbclneaa
namespace Go.Proofs.Ytoahliipbclneaa
open Go Go.Am
set_option linter.unusedVariables false
set_option maxRecDepth 4000
theorem tyAcc {A0 h0 h : List Nat} {s0 s : St} {x y : Slot} {A B : List Ty} (a : AccH Q4 s0.toks.length h s x (A.map Ty.enc)) (M : Moves A0 h0 h s0 s) (hh : ∀ k ∈ h, k < s.toks.length) (hy : y.list? = some (B.map Ty.enc)) (b : A.length + B.length < 2^30) :
  ∃ x' s', appendS Q4 (C.ti Q4) s x y = some (x', s') ∧ AccH Q4 s0.toks.length h s' x' ((A ++ B).map Ty.enc) ∧ Moves A0 h0 h s0 s' ∧ s'.locs = s.locs ∧ (∀ k ∈ h, s'.toks[k]? = s.toks[k]?) ∧ (∀ k ∈ h, k < s'.toks.length) :=
 AccH.appendF a M hh hy (fun a => by rw [Z7]; exact Ty.cells_len a) (by rw [Z7]; decide) b (by rw [Q6f]; decide)
def OwnOK (t : Ty) : Prop := ∀ s, Ret (cw (.f Q1L) [t.enc] s) s (ownTy t).enc
theorem Q5M (t : Ty) (hl : t.args.length < 2^28) (s0 : St) (z : List Slot) (hz : z.length = 4) : ∀ (suf pre A : List Ty) (x : Slot) (s : St) (i : Nat), AccH Q4 s0.toks.length [] s x (A.map Ty.enc) → Moves [] [] [] s0 s → pre ++ suf = t.args → i = pre.length → A.length = pre.length → (∀ t ∈ suf, OwnOK t) →
  Ret (Q27 z [.val (.int .i64 t.kind), .val (.int .i64 t.n), .val (.str t.name), x] (.val (encS t.nl (t.args.map Ty.enc))) (.val (.int .i64 t.args.length)) (.val (.int .i64 i)) s) s0 (Ty.mk t.kind t.n t.name (A ++ ownTys suf) true).enc
 | [], pre, A, x, s, i, hA, hM, h, hi, hn, H => by
   subst hi
   rw [Q5d]; simp only [go_sem, Nat.reduceAdd, Nat.reduceLeDiff, Qd (by simpa using h), Zt hA.av, ownTys, hz]
   exact ⟨_, by simp only [Ty.enc]; rw [Ty.cells_mk], hM.toGrew⟩
 | u :: suf, pre, A, x, s, i, hA, hM, h, hi, hn, H => by
   subst hi
   obtain ⟨f1, f2, f3⟩ := Q8 (x := .val (encS t.nl (t.args.map Ty.enc))) (Qk _ _) h (by omega) (Ty.cells_len u) (by decide)
   obtain ⟨s1, e1, g1⟩ := H u List.mem_cons_self s
   have hlen : pre.length < t.args.length := by rw [← h]; simp
   have hM1 := hM.trans (.grew [] [] g1)
   obtain ⟨x1, s2, e2, a2, m2, -, -, -⟩ := tyAcc (A0 := []) (h0 := []) (h := []) (s0 := s0) (B := [ownTy u]) (y := .full [(ownTy u).enc]) (hA.move (.grew [] [] g1)) hM1 (by simp) rfl (by simp only [List.length_singleton]; omega)
   have ih := Q5M t hl s0 z hz suf (pre ++ [u]) (A ++ [ownTy u]) x1 s2 (pre.length + 1) a2 m2 (by simpa using h) (by simp) (by simp [hn]) (fun w hw => H w (List.mem_cons_of_mem _ hw))
   have c1 := a2.cellOk
   rw [Q5d]; simp only [go_sem, Nat.reduceAdd, Nat.reduceLeDiff, f1, f2, f3, e1, e2, c1, ownTys] at ih ⊢
   exact ih
theorem Q3u : ∀ (k : Nat) (t : Ty), t.size ≤ k → WideTy t → OwnOK t
 | 0, .mk _ _ _ _ _, h, _ => by simp only [Ty.size] at h; omega
 | k + 1, .mk kd n nm l nl, h, h' => fun s => by
   simp only [Ty.size] at h
   have hl := h'.len
   have e1 := Q5M (.mk kd n nm l nl) (by simp only [Ty.args]; omega) s [.val (.int .i64 0), .val (.int .i64 0), .val (.str []), .val .nils] rfl l [] [] (.val .nils) s 0 (.nil _ _ _ _) (.refl _ _ _) rfl rfl rfl (fun t ht => by
    have := Ty.mem_sizes ht
    exact Q3u k t (by omega) (h'.arg ht))
   rw [show ((0 : Nat) : Int) = 0 from rfl] at e1
   rw [QbP]
   simp only [go_sem, Nat.reduceAdd, Nat.reduceLeDiff, Ty.enc, Ty.kind, Ty.n, Ty.name, Ty.args, Ty.nl, ownTy] at e1 ⊢
   exact e1
theorem Q79 (nm : Str) (l : List Ty) (y : Slot) (hy : y.list? = some (l.map Ty.enc)) (hl : l.length < 2^28) (s0 : St) (z : List Slot) (hz : z.length = 4) : ∀ (suf pre A : List Ty) (x : Slot) (s : St) (i : Nat), AccH Q4 s0.toks.length [] s x (A.map Ty.enc) → Moves [] [] [] s0 s → pre ++ suf = l → i = pre.length → A.length = pre.length → (∀ t ∈ suf, OwnOK t) →
  Ret (Q2S z [.val (.int .i64 2), .val (.int .i64 0), .val (.str nm), x] y (.val (.int .i64 l.length)) (.val (.int .i64 i)) s) s0 (Ty.mk 2 0 nm (A ++ suf.map ownTy) true).enc
 | [], pre, A, x, s, i, hA, hM, h, hi, hn, H => by
   subst hi
   rw [Q5K]; simp only [go_sem, Nat.reduceAdd, Nat.reduceLeDiff, Qd (by simpa using h), Zt hA.av, hz]
   exact ⟨_, by simp only [Ty.enc]; rw [Ty.cells_mk], hM.toGrew⟩
 | u :: suf, pre, A, x, s, i, hA, hM, h, hi, hn, H => by
   subst hi
   obtain ⟨f1, f2, f3⟩ := Q8 hy h (by omega) (Ty.cells_len u) (by decide)
   obtain ⟨s1, e1, g1⟩ := H u List.mem_cons_self s
   have hlen : pre.length < l.length := by rw [← h]; simp
   have hM1 := hM.trans (.grew [] [] g1)
   obtain ⟨x1, s2, e2, a2, m2, -, -, -⟩ := tyAcc (A0 := []) (h0 := []) (h := []) (s0 := s0) (B := [ownTy u]) (y := .full [(ownTy u).enc]) (hA.move (.grew [] [] g1)) hM1 (by simp) rfl (by simp only [List.length_singleton]; omega)
   have ih := Q79 nm l y hy hl s0 z hz suf (pre ++ [u]) (A ++ [ownTy u]) x1 s2 (pre.length + 1) a2 m2 (by simpa using h) (by simp) (by simp [hn]) (fun w hw => H w (List.mem_cons_of_mem _ hw))
   have c1 := a2.cellOk
   rw [Q5K]; simp only [go_sem, Nat.reduceAdd, Nat.reduceLeDiff, f1, f2, f3, e1, e2, c1] at ih ⊢
   exact ih
theorem Q2u (nm : Str) (l : List Ty) (v : AV) (hv : (Slot.val v).list? = some (l.map Ty.enc)) (hl : l.length < 2^28) (hw : ∀ t ∈ l, WideTy t) (s : St) : Ret (cw (.f Q1K) [.str nm, v] s) s (ofTy nm l).enc := by
 have e1 := Q79 nm l (.val v) hv (by omega) s [.val (.int .i64 0), .val (.int .i64 0), .val (.str []), .val .nils] rfl l [] [] (.val .nils) s 0 (.nil _ _ _ _) (.refl _ _ _) rfl rfl rfl (fun t ht => Q3u _ t (Nat.le_refl _) (hw t ht))
 rw [show ((0 : Nat) : Int) = 0 from rfl] at e1
 rw [QcJ]
 simp only [go_sem, Nat.reduceAdd, Nat.reduceLeDiff, Ty.enc, hv, ofTy, List.length_map] at e1 ⊢
 exact e1
theorem QaQ (a b : Ty) (s : St) (ha : WideTy a) (hb : WideTy b) : Ret (cw (.f Q7h) [a.enc, b.enc] s) s (fnTy a b).enc := by
 obtain ⟨s1, e1, g1⟩ := Q2u [45, 62] [a, b] (.sl [a.enc, b.enc]) rfl (by simp) (by simp; exact ⟨ha, hb⟩) s
 refine ⟨s1, ?_, g1⟩
 rw [QcI]
 simp only [go_sem, Nat.reduceLeDiff, Ty.enc, fnTy, ofTy] at e1 ⊢
 simp only [go_sem, Nat.reduceAdd, Nat.reduceLeDiff, e1]
section
variable {σ : Type} (to : Int → σ → Ty × σ) (g : Nat) (caps : List AV) (A : List Nat) (R : σ → List Nat → St → Prop) (P : σ → Prop)
structure ToOK : Prop where
 call : ∀ n st h s, R st h s → P (to n st).2 → ∃ s' h', cw (.f g) (.int .i64 n :: caps) s = some (.ret (.val (to n st).1.enc), s') ∧ R (to n st).2 h' s' ∧ Moves A h h' s s'
 held : ∀ st h s, R st h s → ∀ k ∈ h, k < s.toks.length
 stab : ∀ st h s s', R st h s → s'.locs = s.locs → (∀ k ∈ h, s'.toks[k]? = s.toks[k]?) → R st h s'
 mono : ∀ n st, P (to n st).2 → P st
variable {to g caps A R P}
mutual
theorem Qb7 (H : ToOK to g caps A R P) : ∀ (t : Ty) (st : σ), P (chTy to t st).2 → P st
 | .mk k n s l b, st, h => by
   simp only [chTy] at h
   cases hk : decide (k = 1) with
   | true => rw [hk] at h; exact H.mono n st h
   | false => rw [hk] at h; exact Q3Q H l st h
theorem Q3Q (H : ToOK to g caps A R P) : ∀ (l : List Ty) (st : σ), P (chTys to l st).2 → P st
 | [], st, h => h
 | t :: l, st, h => by
   simp only [chTys] at h
   exact Qb7 H t st (Q3Q H l _ h)
end
def ChOK (to : Int → σ → Ty × σ) (g : Nat) (caps : List AV) (A : List Nat) (R : σ → List Nat → St → Prop) (P : σ → Prop) (t : Ty) : Prop :=
 ∀ st h s, R st h s → P (chTy to t st).2 → ∃ s' h', cw (.f Q0U) [t.enc, .fn g caps] s = some (.ret (.val (chTy to t st).1.enc), s') ∧ R (chTy to t st).2 h' s' ∧ Moves A h h' s s'
theorem Q3L (H : ToOK to g caps A R P) (t : Ty) (hl : t.args.length < 2^28) (s0 : St) (h0 : List Nat) (z : List Slot) (hz : z.length = 4) : ∀ (suf pre B : List Ty) (x : Slot) (st : σ) (h : List Nat) (s : St) (i : Nat), AccH Q4 s0.toks.length h s x (B.map Ty.enc) → Moves A h0 h s0 s → R st h s → P (chTys to suf st).2 → pre ++ suf = t.args → i = pre.length → B.length = pre.length → (∀ t ∈ suf, ChOK to g caps A R P t) →
  ∃ s' h', Q0E (.val (.fn g caps)) z [.val (.int .i64 t.kind), .val (.int .i64 t.n), .val (.str t.name), x] (.val (encS t.nl (t.args.map Ty.enc))) (.val (.int .i64 t.args.length)) (.val (.int .i64 i)) s = some (.ret (.val (Ty.mk t.kind t.n t.name (B ++ (chTys to suf st).1) true).enc), s') ∧ R (chTys to suf st).2 h' s' ∧ Moves A h0 h' s0 s'
 | [], pre, B, x, st, h, s, i, hA, hM, hR, hP, hpre, hi, hn, HC => by
   subst hi
   refine ⟨s, h, ?_, hR, hM⟩
   rw [Q3j]; simp only [go_sem, Nat.reduceAdd, Nat.reduceLeDiff, Qd (by simpa using hpre), Zt hA.av, chTys, hz]
   simp only [Ty.enc]; rw [Ty.cells_mk]
 | u :: suf, pre, B, x, st, h, s, i, hA, hM, hR, hP, hpre, hi, hn, HC => by
   subst hi
   obtain ⟨f1, f2, f3⟩ := Q8 (x := .val (encS t.nl (t.args.map Ty.enc))) (Qk _ _) hpre (by omega) (Ty.cells_len u) (by decide)
   have hlen : pre.length < t.args.length := by rw [← hpre]; simp
   simp only [chTys] at hP
   obtain ⟨s1, h1, e1, r1, m1⟩ := HC u List.mem_cons_self st h s hR (Q3Q H suf _ hP)
   obtain ⟨x1, s2, e2, a2, m2, l2, t2, b2⟩ := tyAcc (B := [(chTy to u st).1]) (y := .full [(chTy to u st).1.enc]) (hA.move m1) (hM.trans m1) (H.held _ _ _ r1) rfl (by simp only [List.length_singleton]; omega)
   have r2 := H.stab _ _ _ s2 r1 l2 t2
   obtain ⟨s3, h3, e3, r3, m3⟩ := Q3L H t hl s0 h0 z hz suf (pre ++ [u]) (B ++ [(chTy to u st).1]) x1 (chTy to u st).2 h1 s2 (pre.length + 1) a2 m2 r2 hP (by simpa using hpre) (by simp) (by simp [hn]) (fun w hw => HC w (List.mem_cons_of_mem _ hw))
   refine ⟨s3, h3, ?_, r3, m3⟩
   have c1 := a2.cellOk
   rw [Q3j]; simp only [go_sem, Nat.reduceAdd, Nat.reduceLeDiff, f1, f2, f3, e1, e2, c1, chTys] at e3 ⊢
   exact e3
theorem Q3M (H : ToOK to g caps A R P) : ∀ (k : Nat) (t : Ty), t.size ≤ k → WideTy t → ChOK to g caps A R P t
 | 0, .mk _ _ _ _ _, h, _ => by simp only [Ty.size] at h; omega
 | k + 1, .mk kd n nm l nl, hs, hs' => fun st h s hR hP => by
   simp only [Ty.size] at hs
   have hl := hs'.len
   simp only [chTy] at hP ⊢
   rw [Q9q]
   by_cases hk : kd = 1
   ·rw [decide_eq_true hk, cond_true] at hP
    obtain ⟨s1, h1, e1, r1, m1⟩ := H.call n st h s hR hP
    refine ⟨s1, h1, ?_, by rw [decide_eq_true hk]; exact r1, m1⟩
    simp only [go_sem, Nat.reduceAdd, Nat.reduceLeDiff, Ty.enc, decide_eq_true hk, e1, cond_true]
   ·rw [decide_eq_false hk, cond_false] at hP
    obtain ⟨s1, h1, e1, r1, m1⟩ := Q3L H (.mk kd n nm l nl) (by simp only [Ty.args]; omega) s h [.val (.int .i64 0), .val (.int .i64 0), .val (.str []), .val .nils] rfl l [] [] (.val .nils) st h s 0 (.nil _ _ _ _) (.refl _ _ _) hR hP rfl rfl rfl (fun t ht => by
     have := Ty.mem_sizes ht
     exact Q3M H k t (by omega) (hs'.arg ht))
    refine ⟨s1, h1, ?_, by rw [decide_eq_false hk]; exact r1, m1⟩
    rw [show ((0 : Nat) : Int) = 0 from rfl] at e1
    simp only [go_sem, Nat.reduceAdd, Nat.reduceLeDiff, Ty.enc, Ty.kind, Ty.n, Ty.name, Ty.args, Ty.nl, decide_eq_false hk, cond_false] at e1 ⊢
    exact e1
end
theorem QcH (l : List Ty) (v : AV) (hv : (Slot.val v).list? = some (l.map Ty.enc)) (hl : l.length < 2^40) (hs : ∀ t ∈ l, WideTy t) : ToOK (toPut l) Q3O [.cp [v]] [] (fun _ h _ => h = []) (fun _ => True) where
 call n st h s hR _ := by
  subst hR
  have hvl : (ofCells (C.ti Q9) (List.take (C.ti Q9).size [v])) = some v := by
   simp only [go_sem, Nat.reduceAdd, Nat.reduceLeDiff]
  by_cases hn : 0 ≤ n ∧ n < l.length
  ·obtain ⟨m, rfl⟩ := Int.eq_ofNat_of_zero_le hn.1
   have hm : m < l.length := by omega
   obtain ⟨s1, e1, g1⟩ := Q3u _ l[m] (Nat.le_refl _) (hs _ (List.getElem_mem hm)) s
   refine ⟨s1, [], ?_, rfl, .grew _ _ g1⟩
   have hix : ixS 4 (.val v) (.val (.int .i64 (m : Int))) = some (.val (.cp l[m].cells)) := Q5i hv (v := l[m].enc) (by simp [hm]) (Ty.cells_len _) (by decide)
   have hge : decide ((m : Int) ≥ 0) = true := decide_eq_true (by omega)
   have hlt : decide ((m : Int) < (l.length : Int)) = true := decide_eq_true (by omega)
   rw [Q5L]
   simp only [go_sem, Nat.reduceAdd, Nat.reduceLeDiff, hge, hv, List.length_map, hlt, hix, Ty.enc] at e1 ⊢
   simp only [go_sem, Nat.reduceAdd, Nat.reduceLeDiff, e1, toPut, hn, and_self, if_true]
   simp [hm]
  ·refine ⟨s, [], ?_, rfl, .refl _ _ _⟩
   rw [Q5L]
   simp only [toPut, if_neg hn]
   by_cases h0 : n ≥ 0
   ·have hlt : decide (n < (l.length : Int)) = false := decide_eq_false (by omega)
    simp only [go_sem, Nat.reduceAdd, Nat.reduceLeDiff, decide_eq_true h0, hv, hlt, Ty.enc, tvar]
   ·simp only [go_sem, Nat.reduceAdd, Nat.reduceLeDiff, decide_eq_false h0, Ty.enc, tvar]
 held := by rintro _ _ _ rfl k hk; cases hk
 stab := by rintro _ _ _ _ rfl _ _; rfl
 mono := fun _ _ _ => trivial
theorem Q9V (t : Ty) (l : List Ty) (nl : Bool) (s : St) (ht : WideTy t) (hl : l.length < 2^40) (hs : ∀ t ∈ l, WideTy t) : Ret (cw (.f Q5U) [t.enc, encS nl (l.map Ty.enc)] s) s (putTy t l).enc := by
 obtain ⟨s1, h1, e1, r1, m1⟩ := Q3M (QcH l (encS nl (l.map Ty.enc)) (Qk _ _) hl hs) _ t (Nat.le_refl _) ht () [] s rfl trivial
 subst r1
 refine ⟨s1, ?_, m1.toGrew⟩
 rw [QbO]
 simp only [go_sem, Nat.reduceLeDiff, Ty.enc, putTy] at e1 ⊢
 simp only [go_sem, Nat.reduceAdd, Nat.reduceLeDiff, e1]
def ekI (n : Int) : AV := .int .i64 n
def oldV (old : List Int) (n : Int) : Option Int := match placeI n old 0 with | some i => some (i : Int) | none => none
structure OldR (ml pl ol : Nat) (old : List Int) (h : List Nat) (s : St) : Prop where
 mp : s.locs[pl]? = some (.var [.val (.mp ml)])
 map : ∃ es c D, s.locs[ml]? = some (.map es c) ∧ MapIs ekI ekI (oldV old) es c D
 old : ∃ x, s.locs[ol]? = some (.var [x]) ∧ HeldIs Q1 s x (old.map ekI) h
end Go.Proofs.Ytoahliipbclneaa
namespace Go.Proofs.Ytoahliipbclneaa
open Go Go.Am
set_option linter.unusedVariables false
set_option maxRecDepth 4000
def CloneOK (t : Ty) : Prop := ∀ s, Ret (cw (.f ZS) [t.enc] s) s t.enc
theorem Ty.ofC (t : Ty) : ofCells (C.ti Q4) t.enc.cells = some t.enc := Q1W QbV (by rw [Z7]; exact Ty.cells_len t)
theorem Ty.plainC (t : Ty) : ∀ x ∈ t.cells, plainV x = true := by
 rw [Ty.cells_eq]
 intro x hx
 simp only [List.mem_cons, List.not_mem_nil, or_false] at hx
 rcases hx with rfl | rfl | rfl | rfl
 ·rfl
 ·rfl
 ·rfl
 ·cases hb : t.nl <;> cases t.args <;> rfl
theorem Q35 (t : Ty) (hl : t.args.length < 2^28) (s0 : St) (loc : Nat) (hloc : s0.locs.length ≤ loc) (z : List Slot) (hz : z.length = 4) : ∀ (suf pre : List Ty) (s : St) (i : Nat), Grew s0 s → Holds s loc (t.args.map Ty.enc) → pre ++ suf = t.args → i = pre.length → (∀ u ∈ suf, CloneOK u) →
  Ret (Q0k [.val (.int .i64 t.kind), .val (.int .i64 t.n), .val (.str t.name), .val (.vs loc Q4 4 0 t.args.length)] z (.val (.vs loc Q4 4 0 t.args.length)) (.val (.int .i64 t.args.length)) (.val (.int .i64 i)) s) s0 (.agg [.int .i64 t.kind, .int .i64 t.n, .str t.name, .sl (t.args.map Ty.enc)])
 | [], pre, s, i, hg, hh, h, hi, H => by
   subst hi
   have hf := hh.frz (ti := C.ti) (e := Q4) (fun v hv => by
    obtain ⟨u, _, rfl⟩ := List.mem_map.1 hv
    exact ⟨by rw [Z7]; exact Ty.cells_len u, Ty.ofC u⟩) (fun v hv => by
    obtain ⟨u, _, rfl⟩ := List.mem_map.1 hv
    exact Ty.plainC u) (by rw [Z7]; decide)
   rw [Z7, List.length_map] at hf
   rw [Q0f]; simp only [go_sem, Nat.reduceAdd, Nat.reduceLeDiff, Qd (by simpa using h), frzSlots, Q3n, Q3o, Q4A, hf, hz]
   exact ⟨_, rfl, Q3c hg hloc _⟩
 | u :: suf, pre, s, i, hg, hh, h, hi, H => by
   subst hi
   have hlt : pre.length < t.args.length := by rw [← h]; simp
   obtain ⟨f1, -, f3⟩ := Q8 (f := Ty.enc) (x := .val (encS t.nl (t.args.map Ty.enc))) (Qk _ _) h (by omega) (Ty.cells_len u) (by decide)
   have hat : (t.args.map Ty.enc)[pre.length]? = some u.enc := by rw [← h]; simp
   have hsz : ∀ v ∈ t.args.map Ty.enc, v.cells.length = 4 := fun v hv => by
    obtain ⟨w, _, rfl⟩ := List.mem_map.1 hv
    exact Ty.cells_len w
   have f2 := hh.ld (t := C.ti Q4) (by rw [Z7]; exact hsz) hat
   rw [Z7] at f2
   obtain ⟨s1, e1, g1⟩ := H u List.mem_cons_self s
   have f4 : stV s1 (.val (.vp loc (pre.length * 4))) (u.cells.map .val) = some s1 := (hh.move g1).st hsz hat
   have f5 := Qbp (sz := 4) (loc := loc) (lo := 0) (m := t.args.length) (e := Q4) (k := .i64) (n := pre.length) hlt (by decide)
   rw [Nat.zero_add] at f5
   have ih := Q35 t hl s0 loc hloc z hz suf (pre ++ [u]) s1 (pre.length + 1) (hg.trans g1) (hh.move g1) (by simpa using h) (by simp) (fun w hw => H w (List.mem_cons_of_mem _ hw))
   rw [Q0f]; simp only [go_sem, Nat.reduceAdd, Nat.reduceLeDiff, f1, f2, f3, f4, f5, e1] at ih ⊢
   exact ih
theorem Q8g (s : St) : cw (.f QP) [.nils] s = some (.ret (.val .nils), s) := by
 rw [ZN]; simp only [go_sem, Qce Q5V]
theorem Q6p (s : St) : cw (.f QP) [.sl []] s = some (.ret (.full []), s) := by
 rw [ZN]; simp only [go_sem, Qbj Q5V, appendV, isArrS]
theorem Q7m (l : List Ty) (hl : l.length < 2^28) (h0 : l ≠ []) (s : St) : cw (.f QP) [.sl (l.map Ty.enc)] s = some (.ret (.val (.vs s.locs.length Q4 4 0 l.length)), s.addLoc (.var ((flatL (l.map Ty.enc)).map .val))) := by
 have e1 := Q9A (e := Q4) (t := C.ti Q4) (s := s) (y := .val (.sl (l.map Ty.enc))) (l := l.map Ty.enc) rfl (by simpa using h0) (fun v hv => by
   obtain ⟨u, _, rfl⟩ := List.mem_map.1 hv
   rw [Z7]; exact Ty.cells_len u) (by rw [Z7]; decide) (by rw [Q6f, List.length_map]; omega) (by rw [List.length_map]; omega)
 rw [Z7, List.length_map] at e1
 rw [ZN]; simp only [go_sem, Qbj Q5V, e1]
theorem Q1s : ∀ (k : Nat) (t : Ty), t.size ≤ k → WideTy t → CloneOK t
 | 0, .mk _ _ _ _ _, h, _ => by simp only [Ty.size] at h; omega
 | k + 1, .mk kd n nm l nl, h, h' => fun s => by
   simp only [Ty.size] at h
   have hl := h'.len
   rw [Q8j]
   cases l with
   | nil =>
     cases nl with
     | true =>
       simp only [go_sem, Nat.reduceAdd, Nat.reduceLeDiff, Q8g, Ty.enc, Ty.cells_mk, List.map_nil]
       rw [Q0f]
       simp only [go_sem, Int.reduceAdd, Nat.reduceAdd, Nat.reduceLeDiff, frzSlots, Q3n, Q3o, Q8V, Q4A]
       exact Ret.same _ _
     | false =>
       simp only [go_sem, Nat.reduceAdd, Nat.reduceLeDiff, Q6p, Ty.enc, Ty.cells_mk, List.map_nil, Q2o]
       rw [Q0f]
       simp only [go_sem, Int.reduceAdd, Nat.reduceAdd, Nat.reduceLeDiff, frzSlots, Q3n, Q3o, Q8U, Q4A]
       exact Ret.same _ _
   | cons u l =>
     have e1 := Q35 (.mk kd n nm (u :: l) nl) (by simp only [Ty.args]; omega) s s.locs.length (Nat.le_refl _) [.val (.int .i64 0), .val (.int .i64 0), .val (.str []), .val .nils] rfl (u :: l) [] (s.addLoc (.var ((flatL ((u :: l).map Ty.enc)).map .val))) 0 ((Grew.refl s).addLoc _) (by simp [Holds, St.addLoc, Ty.args]) rfl rfl (fun t ht => by
      have := Ty.mem_sizes ht
      exact Q1s k t (by omega) (h'.arg ht))
     rw [show ((0 : Nat) : Int) = 0 from rfl] at e1
     have e2 := Q7m (u :: l) hl (by simp) s
     simp only [List.map_cons] at e2
     simp only [go_sem, Nat.reduceAdd, Nat.reduceLeDiff, Ty.enc, Ty.kind, Ty.n, Ty.name, Ty.args, e2, List.map_cons] at e1 ⊢
     exact e1
end Go.Proofs.Ytoahliipbclneaa
namespace Go.Am
open Go
mutual
theorem Qbi : ∀ t : Ty, eqTy t t = true
 | .mk k n s l b => by simp only [eqTy, Q6F l, decide_true, Bool.and_self]
theorem Q6F : ∀ l : List Ty, eqTys l l = true
 | [] => by simp only [eqTys]
 | t :: l => by simp only [eqTys, Qbi t, Q6F l, Bool.and_self]
end
theorem Q7U {k n : Int} {s : Str} {l : List Ty} {b : Bool} (h : goodB (.mk k n s l b) = true) (hk : k = 1) : 0 ≤ n ∧ s = [] ∧ l = [] := by
 have h : goodC k n s l.length (lowB s) = true := h
 unfold goodC at h
 simp only [decide_eq_true hk, cond_true, Bool.and_eq_true, decide_eq_true_eq] at h
 exact ⟨h.1.1, h.1.2, List.eq_nil_of_length_eq_zero (by omega)⟩
mutual
theorem Qdx (L : List Ty) : ∀ t : Ty, allTy goodB t = true → putR L t = (chTy (toPut L) t ()).1
 | .mk k n s l b, h => by
   simp only [allTy, Bool.and_eq_true] at h
   simp only [putR, chTy]
   by_cases hk : k = 1
   ·obtain ⟨h0, rfl, rfl⟩ := Q7U h.1 hk
    simp only [decide_eq_true hk, cond_true, toPut]
    split
    ·rfl
    ·simp only [ownTy, ownTys, tvar, hk]
   ·simp only [decide_eq_false hk, cond_false, Q9h L l h.2]
theorem Q9h (L : List Ty) : ∀ l : List Ty, allTys goodB l = true → putRs L l = (chTys (toPut L) l ()).1
 | [], _ => by simp only [putRs, chTys]
 | t :: l, h => by
   simp only [allTys, Bool.and_eq_true] at h
   simp only [putRs, chTys, Qdx L t h.1, Q9h L l h.2]
end
theorem Q6T (n : Int) (l : List Int) : placeR n l < 0 ↔ placeI n l 0 = none := by
 unfold placeR
 cases h : placeI n l 0 with
 | none => simp
 | some j => simp
theorem Q88 : ∀ (a b : List Ty) (acc : List Int), varsL (a ++ b) acc = varsL b (varsL a acc)
 | [], b, acc => rfl
 | u :: a, b, acc => by simp only [List.cons_append, varsL, Q88 a b]
theorem Q5J (n : Int) (old : List Int) : (toCanon n old).2 = if placeR n old < 0 then old ++ [n] else old := by
 unfold toCanon
 by_cases h : placeR n old < 0
 ·rw [if_pos h]; rw [Q6T] at h; rw [h]
 ·rw [if_neg h]; rw [Q6T] at h
  cases hp : placeI n old 0 with
  | none => exact absurd hp h
  | some j => rfl
mutual
theorem QcM : ∀ (t : Ty) (old : List Int), allTy goodB t = true → varsL (preTy t) old = (chTy toCanon t old).2
 | .mk k n s l b, old, h => by
   simp only [allTy, Bool.and_eq_true] at h
   have hv : varsL (preTy (.mk k n s l b)) old = varsL (preTys l) (bif decide (k = 1) && decide (placeR n old < 0) then old ++ [n] else old) := rfl
   rw [hv]
   simp only [chTy]
   by_cases hk : k = 1
   ·obtain ⟨h0, rfl, rfl⟩ := Q7U h.1 hk
    simp only [decide_eq_true hk, cond_true, Bool.true_and, preTys, varsL, Q5J]
    by_cases hp : placeR n old < 0
    ·simp [hp]
    ·simp [hp]
   ·simp only [decide_eq_false hk, cond_false, Bool.false_and, Q89 l old h.2]
theorem Q89 : ∀ (l : List Ty) (old : List Int), allTys goodB l = true → varsL (preTys l) old = (chTys toCanon l old).2
 | [], old, _ => by simp only [preTys, varsL, chTys]
 | t :: l, old, h => by
   simp only [allTys, Bool.and_eq_true] at h
   simp only [preTys, Q88, chTys, QcM t old h.1, Q89 l _ h.2]
end
def Ext (a b : List Int) : Prop := ∃ c, b = a ++ c
theorem Ext.refl (a : List Int) : Ext a a := ⟨[], by simp⟩
theorem Ext.trans {a b c : List Int} (h : Ext a b) (g : Ext b c) : Ext a c := by
 obtain ⟨x, rfl⟩ := h; obtain ⟨y, rfl⟩ := g; exact ⟨x ++ y, by simp⟩
theorem Q6S {n : Int} {i j : Nat} : ∀ {a c : List Int}, placeI n a i = some j → placeI n (a ++ c) i = some j := by
 intro a
 induction a generalizing i with
 | nil => intro c h; cases h
 | cons m a ih =>
   intro c h
   simp only [List.cons_append, placeI] at h ⊢
   split at h
   ·rename_i e; rw [if_pos e]; exact h
   ·rename_i e; rw [if_neg e]; exact ih h
theorem Q9S (n : Int) (old : List Int) : Ext old (toCanon n old).2 := by
 rw [Q5J]; split
 ·exact ⟨_, rfl⟩
 ·exact .refl _
mutual
theorem Q9E : ∀ (t : Ty) (old : List Int), Ext old (chTy toCanon t old).2
 | .mk k n s l b, old => by
   simp only [chTy]
   cases decide (k = 1) with
   | true => exact Q9S n old
   | false => exact Q2B l old
theorem Q2B : ∀ (l : List Ty) (old : List Int), Ext old (chTys toCanon l old).2
 | [], old => .refl _
 | t :: l, old => by simp only [chTys]; exact (Q9E t old).trans (Q2B l _)
end
theorem QaP {n : Int} {old fin : List Int} (h : Ext (toCanon n old).2 fin) : (toCanon n old).1 = tvar (placeR n fin) ∧ ∃ j, placeI n fin 0 = some j := by
 obtain ⟨c, rfl⟩ := h
 unfold toCanon placeR
 cases hp : placeI n old 0 with
 | some j =>
   simp only []
   have := Q6S (c := c) hp
   rw [this]; exact ⟨rfl, j, rfl⟩
 | none =>
   simp only []
   have h1 : placeI n (old ++ [n]) 0 = some old.length := by
    rw [show placeI n (old ++ [n]) 0 = _ from placeI_app' n n old 0, hp]; simp
   have := Q6S (c := c) h1
   rw [this]; exact ⟨rfl, _, rfl⟩
where
 placeI_app' (n m : Int) : ∀ (l : List Int) (i : Nat), placeI n (l ++ [m]) i = match placeI n l i with | some j => some j | none => if n = m then some (i + l.length) else none
 | [], i => by simp [placeI]
 | a :: l, i => by
   simp only [List.cons_append, placeI, placeI_app' n m l (i + 1), List.length_cons]
   by_cases h : n = a
   ·simp [h]
   ·simp only [h, if_false]
    rw [show i + 1 + l.length = i + (l.length + 1) by omega]
mutual
theorem Qdz : ∀ (t : Ty) (old fin : List Int), Ext (chTy toCanon t old).2 fin → renR fin t = (chTy toCanon t old).1
 | .mk k n s l b, old, fin, h => by
   simp only [chTy] at h ⊢
   simp only [renR]
   cases hk : decide (k = 1) with
   | true => rw [hk] at h; simp only [cond_true] at h ⊢; exact (QaP h).1.symm
   | false => rw [hk] at h; simp only [cond_false] at h ⊢; rw [Q9i l old fin h]
theorem Q9i : ∀ (l : List Ty) (old fin : List Int), Ext (chTys toCanon l old).2 fin → renRs fin l = (chTys toCanon l old).1
 | [], old, fin, _ => by simp only [renRs, chTys]
 | t :: l, old, fin, h => by
   simp only [chTys] at h ⊢
   simp only [renRs]
   rw [Qdz t old fin ((Q2B l _).trans h), Q9i l _ fin h]
end
section
variable {σ : Type} (to : Int → σ → Ty × σ) (B : Nat)
mutual
theorem Qb8 (h : ∀ n st, (to n st).1.size ≤ B) (hB : 1 ≤ B) : ∀ (t : Ty) (st : σ), (chTy to t st).1.size ≤ t.size * B
 | .mk k n s l b, st => by
   simp only [chTy, Ty.size, Nat.add_mul, Nat.one_mul]
   have h1 := h n st
   have h2 := Q6o h hB l st
   cases decide (k = 1) with
   | true => simp only [cond_true]; omega
   | false => simp only [cond_false, Ty.size]; omega
theorem Q6o (h : ∀ n st, (to n st).1.size ≤ B) (hB : 1 ≤ B) : ∀ (l : List Ty) (st : σ), Ty.sizes (chTys to l st).1 ≤ Ty.sizes l * B
 | [], st => by simp only [chTys, Ty.sizes]; omega
 | t :: l, st => by
   have h1 := Qb8 h hB t st
   have h2 := Q6o h hB l (chTy to t st).2
   simp only [chTys, Ty.sizes, Nat.add_mul]; omega
end
end
end Go.Am
namespace Go.Proofs.Ytoahliipbclneaa
open Go Go.Am
set_option linter.unusedVariables false
structure Place where
 name : Str
 data : Str
 tag : Int
 of_ : Int
 has : Bool
 vars : Int
 ty : Ty
 deriving Inhabited
namespace Place
def cells (p : Place) : List AV := .str p.name :: .str p.data :: .int .i64 p.tag :: .int .i64 p.of_ :: .bool p.has :: .int .i64 p.vars :: p.ty.cells
abbrev enc (p : Place) : AV := .agg p.cells
theorem cells_eq (p : Place) : p.cells = [.str p.name, .str p.data, .int .i64 p.tag, .int .i64 p.of_, .bool p.has, .int .i64 p.vars, .int .i64 p.ty.kind, .int .i64 p.ty.n, .str p.ty.name, encS p.ty.nl (p.ty.args.map Ty.enc)] := by rw [cells, Ty.cells_eq]
theorem cells_len (p : Place) : p.cells.length = 10 := by rw [cells_eq]; rfl
def zero : Place := ⟨[], [], 0, 0, false, 0, .zero⟩
end Place
def sInt : Str := [105, 110, 116]
def sBool : Str := [98, 111, 111, 108]
def sUnit : Str := [117, 110, 105, 116]
def sExn : Str := [101, 120, 110]
def sRef : Str := [114, 101, 102]
def sArrow : Str := [45, 62]
def sStar : Str := [42]
def known0 : Str → Option Int := upd (upd (upd (upd (upd (upd (upd (fun _ => none) sInt (-1)) sBool (-1)) sUnit (-1)) sExn (-1)) sRef (-1)) sArrow (-1)) sStar (-1)
def knownStep (g : Str → Option Int) (p : Place) : Str → Option Int := match g p.data with | none => upd g p.data p.vars | some _ => g
def knownD (t : List Place) : Str → Option Int := t.foldl knownStep known0
mutual
def wrongD (g : Str → Option Int) (params : Int) : Ty → Int × Str
 | .mk k n nm l b => if k = 1 then (if n ≥ params then (16, []) else (0, [])) else match g nm with
   | none => (8, nm)
   | some m => if m ≥ 0 ∧ m ≠ (l.length : Int) then (19, nm) else wrongsD g params l
def wrongsD (g : Str → Option Int) (params : Int) : List Ty → Int × Str
 | [] => (0, [])
 | t :: l => if (wrongD g params t).1 ≠ 0 then wrongD g params t else wrongsD g params l
end
def placeD (nm data : Str) (tag of_ : Int) : Place := ⟨nm, data, tag, of_, false, 0, ofTy data []⟩
def startD : List Place := [placeD [40, 41] sUnit 0 1, placeD [102, 97, 108, 115, 101] sBool 0 2, placeD [116, 114, 117, 101] sBool 1 2, placeD [68, 105, 118] sExn 0 0, placeD [69, 111, 102] sExn 1 0, placeD [77, 97, 116, 99, 104] sExn 2 0]
def findD (nm : Str) : List Place → Option Place
 | [] => none
 | p :: l => if p.name = nm then some p else findD nm l
def foundD (o : Option Place) : AV := match o with | some p => .tup [p.enc, .bool true] | none => .tup [Place.zero.enc, .bool false]
def varsTy (n : Nat) : List Ty := (List.range n).map fun i : Nat => tvar (i : Int)
def headD (d : Dec) : Ty × Int := bif decide (d.kind = 4) then (ofTy sExn [], 0) else (ofTy d.name (varsTy d.params.toNat), d.params)
def conBad (k : Int) (g : Str → Option Int) (vars tag : Int) (met : List Str) (c : Con) : Int × Str :=
 if c.name ∈ met then (9, c.name) else bif decide (k = 4) && decide (tag > 1023) then (19, c.name) else bif c.has then (if (wrongD g vars c.arg).1 ≠ 0 then wrongD g vars c.arg else (0, c.name)) else (0, c.name)
def conPlace (res : Ty) (vars : Int) (data : Str) (tag of_ : Int) (c : Con) : Place := ⟨c.name, data, tag, of_, c.has, vars, bif c.has then fnTy c.arg res else putTy res []⟩
def consD (k : Int) (g : Str → Option Int) (res : Ty) (vars : Int) (data : Str) (of_ : Int) : List Con → List Str → Int → List Place → List Place × TBad
 | [], _, _, out => (out, .zero)
 | c :: l, met, tag, out => if (conBad k g vars tag met c).1 ≠ 0 then ([], ⟨(conBad k g vars tag met c).1, c.at_, (conBad k g vars tag met c).2⟩) else
   consD k g res vars data of_ l (met ++ [c.name]) (tag + 1) (out ++ [conPlace res vars data tag of_ c])
def exns (t : List Place) : Nat := (t.filter fun p => decide (p.data = sExn)).length
def addD (t : List Place) (d : Dec) : List Place × TBad :=
 bif decide (d.kind = 3) then (bif (knownD t d.name).isSome then ([], ⟨9, d.at_, d.name⟩) else consD 3 (upd (knownD t) d.name d.params) (headD d).1 (headD d).2 d.name d.cons.length d.cons (t.map Place.name) 0 t)
 else bif decide (d.kind = 4) then consD 4 (knownD t) (headD d).1 (headD d).2 sExn 0 d.cons (t.map Place.name) (exns t) t
 else (t, .zero)
def ofD : List Dec → List Place → List Place × TBad
 | [], t => (t, .zero)
 | d :: l, t => if (addD t d).2.kind ≠ 0 then ([], (addD t d).2) else ofD l (addD t d).1
end Go.Proofs.Ytoahliipbclneaa
namespace Go.Proofs.Ytoahliipbclneaa
open Go Go.Am
set_option linter.unusedVariables false
set_option maxRecDepth 4000
theorem Za (nm data : Str) (tag of_ : Int) (s : St) : Ret (cw (.f Z5) [.str nm, .str data, .int .i64 tag, .int .i64 of_] s) s (placeD nm data tag of_).enc := by
 obtain ⟨s1, e1, g1⟩ := Q2u data [] .nils rfl (by simp) (by simp) s
 refine ⟨s1, ?_, g1⟩
 rw [Q8l]
 simp only [go_sem, Ty.enc, ofTy, List.map_nil, Ty.cells_mk] at e1
 simp only [go_sem, Nat.reduceAdd, Nat.reduceLeDiff, e1, Place.enc, Place.cells, placeD, ofTy, List.map_nil, Ty.cells_mk]
theorem Q0w (s : St) : ∃ s', cw (.f ZR) [] s = some (.ret (.full (startD.map Place.enc)), s') ∧ Grew s s' := by
 obtain ⟨s1, e1, g1⟩ := Za [40, 41] sUnit 0 1 s
 obtain ⟨s2, e2, g2⟩ := Za [102, 97, 108, 115, 101] sBool 0 2 s1
 obtain ⟨s3, e3, g3⟩ := Za [116, 114, 117, 101] sBool 1 2 s2
 obtain ⟨s4, e4, g4⟩ := Za [68, 105, 118] sExn 0 0 s3
 obtain ⟨s5, e5, g5⟩ := Za [69, 111, 102] sExn 1 0 s4
 obtain ⟨s6, e6, g6⟩ := Za [77, 97, 116, 99, 104] sExn 2 0 s5
 refine ⟨s6, ?_, ((((g1.trans g2).trans g3).trans g4).trans g5).trans g6⟩
 rw [Q8i]
 simp only [sUnit, sBool, sExn] at e1 e2 e3 e4 e5 e6
 simp only [go_sem, e1, e2, e3, e4, e5, e6, Place.enc, Place.cells_len, startD, sUnit, sBool, sExn, List.map_cons, List.map_nil]
theorem Q3B (nm : Str) (t : List Place) (hl : t.length < 2^40) (hw : ∀ p ∈ t, WideTy p.ty) (z : List Slot) (hz : z.length = 10) (y : Slot) (hy : y.list? = some (t.map Place.enc)) : ∀ (suf pre : List Place) (s : St) (i : Nat), pre ++ suf = t → i = pre.length →
  Ret (Q0z (.val (.str nm)) z y (.val (.int .i64 t.length)) (.val (.int .i64 i)) s) s (foundD (findD nm suf))
 | [], pre, s, i, h, hi => by
   subst hi
   rw [Q33]; simp only [go_sem, Nat.reduceAdd, Nat.reduceLeDiff, Qd (by simpa using h), hz]
   exact Ret.same _ _
 | p :: suf, pre, s, i, h, hi => by
   subst hi
   obtain ⟨f1, f2, f3⟩ := Q8 hy h (by omega) (Place.cells_len p) (by decide)
   obtain ⟨s1, e1, g1⟩ := Q1s _ p.ty (Nat.le_refl _) (hw p (by rw [← h]; simp)) s
   have ih := Q3B nm t hl hw z hz y hy suf (pre ++ [p]) s (pre.length + 1) (by simpa using h) (by simp)
   rw [Q33]
   simp only [Ty.enc, Ty.cells_eq] at e1
   simp only [go_sem, Nat.reduceAdd, Nat.reduceLeDiff, f1, f2, f3, Place.cells_eq] at ih ⊢
   simp only [go_sem, Nat.reduceAdd, Nat.reduceLeDiff, e1, hz, findD]
   by_cases hn : p.name = nm
   ·simp only [go_sem, hn, if_true, foundD, Place.enc, Place.cells_eq]
    exact ⟨s1, rfl, g1⟩
   ·simp only [go_sem, hn]
    exact ih
theorem Q3C (nm : Str) (t : List Place) (hl : t.length < 2^40) (hw : ∀ p ∈ t, WideTy p.ty) (v : AV) (hv : (Slot.val v).list? = some (t.map Place.enc)) (s : St) : Ret (cw (.f Q0R) [v, .str nm] s) s (foundD (findD nm t)) := by
 have e1 := Q3B nm t hl hw ([.val (.str []), .val (.str []), .val (.int .i64 0), .val (.int .i64 0), .val (.bool false), .val (.int .i64 0), .val (.int .i64 0), .val (.int .i64 0), .val (.str []), .val .nils]) rfl (.val v) hv t [] s 0 rfl rfl
 rw [show ((0 : Nat) : Int) = 0 from rfl] at e1
 rw [Q8I]
 simp only [go_sem, hv, List.length_map] at e1 ⊢
 exact e1
theorem placeAcc {s0 s : St} {x : Slot} {l : List Place} (h : AccR Q5 s0 s x (l.map Place.enc)) (p : Place) (hl : l.length < 2^29) :
  ∃ x' s', appendS Q5 (C.ti Q5) s x (.full [p.enc]) = some (x', s') ∧ AccR Q5 s0 s' x' ((l ++ [p]).map Place.enc) :=
 AccR.appendF (B := [p]) h rfl (fun a => by rw [Q1p]; exact Place.cells_len a) (by rw [Q1p]; decide) (by simp only [List.length_singleton]; omega) (by rw [Q48]; decide)
theorem Q2H (t : List Place) (hl : t.length < 2^28) (hw : ∀ p ∈ t, WideTy p.ty) (y : Slot) (hy : y.list? = some (t.map Place.enc)) (s0 : St) : ∀ (suf pre : List Place) (x : Slot) (s : St) (i : Nat), AccR Q5 s0 s x (pre.map Place.enc) → pre ++ suf = t → i = pre.length →
  RetA (ZZ x y (.val (.int .i64 t.length)) (.val (.int .i64 i)) s) Q5 s0 (t.map Place.enc)
 | [], pre, x, s, i, ha, h, hi => by
   subst hi
   rw [Q2d]; simp only [go_sem, Qd (by simpa using h)]
   have : pre = t := by simpa using h
   subst this
   exact ⟨x, s, rfl, ha⟩
 | p :: suf, pre, x, s, i, ha, h, hi => by
   subst hi
   obtain ⟨f1, f2, f3⟩ := Q8 hy h (by omega) (Place.cells_len p) (by decide)
   obtain ⟨s1, e1, g1⟩ := Q1s _ p.ty (Nat.le_refl _) (hw p (by rw [← h]; simp)) s
   have hlen : pre.length < t.length := by rw [← h]; simp
   obtain ⟨x2, s2, e2, a2⟩ := placeAcc (ha.move g1) p (by omega)
   have ih := Q2H t hl hw y hy s0 suf (pre ++ [p]) x2 s2 (pre.length + 1) a2 (by simpa using h) (by simp)
   rw [Q2d]
   simp only [Ty.enc, Ty.cells_eq] at e1
   simp only [Place.enc, Place.cells_eq] at e2
   simp only [go_sem, Nat.reduceAdd, Nat.reduceLeDiff, f1, f2, f3, Place.cells_eq] at ih ⊢
   simp only [go_sem, Nat.reduceAdd, Nat.reduceLeDiff, e1, e2]
   exact ih
theorem Q5Y (t : List Place) (hl : t.length < 2^28) (hw : ∀ p ∈ t, WideTy p.ty) (v : AV) (hv : (Slot.val v).list? = some (t.map Place.enc)) (s : St) : RetA (cw (.f Q14) [v] s) Q5 s (t.map Place.enc) := by
 obtain ⟨x, s1, e1, a1⟩ := Qcq Q5 (C.ti Q5) s (t.length : Int) (by omega) (by omega) (by rw [Q48]; decide) (by rw [Q1p]; decide) Place.zero.enc (by rw [Q8D]; exact Q1W Q9x (by rw [Q1p]; rfl))
 have e2 := Q2H t hl hw (.val v) hv s t [] x s1 0 a1 rfl rfl
 rw [show ((0 : Nat) : Int) = 0 from rfl] at e2
 rw [Q7r]
 simp only [go_sem, hv, List.length_map, e1] at e2 ⊢
 exact e2
end Go.Proofs.Ytoahliipbclneaa
namespace Go.Proofs.Ytoahliipbclneaa
open Go Go.Am
set_option linter.unusedVariables false
set_option maxRecDepth 4000
def MapSI (s : St) (loc : Nat) (g : Str → Option Int) : Prop := ∃ es c D, s.locs[loc]? = some (.map es c) ∧ MapIs (fun k : Str => AV.str k) (fun n : Int => AV.int .i64 n) g es c D
theorem MapSI.new (s : St) : MapSI (s.addLoc (.map [] 0)) s.locs.length (fun _ => none) := ⟨[], 0, [], Q31 _ _, .nil⟩
theorem MapSI.lt {s : St} {loc : Nat} {g : Str → Option Int} (h : MapSI s loc g) : loc < s.locs.length := by
 obtain ⟨es, c, D, h1, -⟩ := h
 exact (List.getElem?_eq_some_iff.1 h1).1
theorem MapSI.move {s s' : St} {loc : Nat} {g : Str → Option Int} (h : MapSI s loc g) (k : Grew s s') : MapSI s' loc g := by
 obtain ⟨es, c, D, h1, h2⟩ := h
 exact ⟨es, c, D, k.loc h1, h2⟩
theorem MapSI.moves {A h1 h2 : List Nat} {s s' : St} {loc : Nat} {g : Str → Option Int} (h : MapSI s loc g) (m : Moves A h1 h2 s s') (hn : loc ∉ A) : MapSI s' loc g := by
 obtain ⟨es, c, D, e1, e2⟩ := h
 exact ⟨es, c, D, m.loc e1 hn, e2⟩
theorem Q8E : (C.ti Q1).zeroV = some (.int .i64 0) := QbT Qap QaZ Qar
theorem MapSI.get {s : St} {loc : Nat} {g : Str → Option Int} (h : MapSI s loc g) (k : Str) : lookupS (C.ti Q2) (C.ti Q1) s (.val (.mp loc)) (.val (.str k)) false = some (.val (.int .i64 ((g k).getD 0))) := by
 obtain ⟨es, c, D, h1, h2⟩ := h
 have := Q5B h2 keyStr k (kt := C.ti Q2) (et := C.ti Q1) (Q4P ZD k) h1 Q8E false
 rw [this]
 cases g k <;> rfl
theorem MapSI.get2 {s : St} {loc : Nat} {g : Str → Option Int} (h : MapSI s loc g) (k : Str) : lookupS (C.ti Q2) (C.ti Q1) s (.val (.mp loc)) (.val (.str k)) true = some (.val (.tup [.int .i64 ((g k).getD 0), .bool (g k).isSome])) := by
 obtain ⟨es, c, D, h1, h2⟩ := h
 have := Q5B h2 keyStr k (kt := C.ti Q2) (et := C.ti Q1) (Q4P ZD k) h1 Q8E true
 rw [this]
 cases g k <;> rfl
theorem MapSI.set {s : St} {loc : Nat} {g : Str → Option Int} (h : MapSI s loc g) (k : Str) (v : Int) :
  ∃ s', updateS (C.ti Q2) (C.ti Q1) s (.val (.mp loc)) (.val (.str k)) (.val (.int .i64 v)) = some (.no, s') ∧ MapSI s' loc (upd g k v) ∧ (∀ hs, Moves [loc] hs hs s s') ∧ s'.toks = s.toks ∧ s'.locs.length = s.locs.length := by
 obtain ⟨es, c, D, h1, h2⟩ := h
 obtain ⟨es', c', D', e1, e2⟩ := Q9W h2 keyStr (kt := C.ti Q2) (et := C.ti Q1) k (Q4P ZD k) h1 (x := .val (.int .i64 v)) (v := v) rfl (by rw [Qaq]; rfl)
 exact ⟨_, e1, ⟨es', c', D', Qf8 h1, e2⟩, fun hs => (Moves.refl [loc] hs s).setLoc (.inl (by simp)) _, rfl, by simp⟩
end Go.Proofs.Ytoahliipbclneaa
namespace Go.Proofs.Ytoahliipbclneaa
open Go Go.Am
set_option linter.unusedVariables false
set_option maxRecDepth 4000
theorem MapSI.setNew {s0 s : St} {loc : Nat} {g : Str → Option Int} (h : MapSI s loc g) (m : Moves [] [] [] s0 s) (hl : s0.locs.length ≤ loc) (k : Str) (v : Int) :
  ∃ s', updateS (C.ti Q2) (C.ti Q1) s (.val (.mp loc)) (.val (.str k)) (.val (.int .i64 v)) = some (.no, s') ∧ MapSI s' loc (upd g k v) ∧ Moves [] [] [] s0 s' := by
 obtain ⟨s', e1, h1, m1, -⟩ := h.set k v
 exact ⟨s', e1, h1, m.since (m1 []) (fun i hi => by simp at hi; subst hi; exact .inr hl) (by simp)⟩
theorem Q1t (t : List Place) (hl : t.length < 2^28) (y : Slot) (hy : y.list? = some (t.map Place.enc)) (s0 : St) (loc : Nat) (hloc : s0.locs.length ≤ loc) : ∀ (suf pre : List Place) (g : Str → Option Int) (s : St) (i : Nat), Moves [] [] [] s0 s → MapSI s loc g → pre ++ suf = t → i = pre.length →
  ∃ s', ZA (.val (.mp loc)) y (.val (.int .i64 t.length)) (.val (.int .i64 i)) s = some (.ret (.val (.mp loc)), s') ∧ MapSI s' loc (suf.foldl knownStep g) ∧ Grew s0 s'
 | [], pre, g, s, i, hm, hs, h, hi => by
   subst hi
   rw [Q2J]; simp only [go_sem, Qd (by simpa using h)]
   exact ⟨s, rfl, hs, hm.toGrew⟩
 | p :: suf, pre, g, s, i, hm, hs, h, hi => by
   subst hi
   obtain ⟨f1, f2, f3⟩ := Q8 hy h (by omega) (Place.cells_len p) (by decide)
   rw [Q2J]
   cases hg : g p.data with
   | none =>
     obtain ⟨s1, e1, h1, m1⟩ := hs.setNew hm hloc p.data p.vars
     obtain ⟨s2, e2, h2, m2⟩ := Q1t t hl y hy s0 loc hloc suf (pre ++ [p]) (upd g p.data p.vars) s1 (pre.length + 1) m1 h1 (by simpa using h) (by simp)
     have g1 := hs.get2 p.data
     rw [hg] at g1
     simp only [go_sem, Nat.reduceAdd, Nat.reduceLeDiff, f1, f2, f3, Place.cells_eq, List.foldl_cons, knownStep, hg] at e2 ⊢
     simp only [go_sem, g1, e1, Option.getD_none, Option.isSome_none, Bool.not_false]
     exact ⟨s2, e2, h2, m2⟩
   | some n =>
     obtain ⟨s2, e2, h2, m2⟩ := Q1t t hl y hy s0 loc hloc suf (pre ++ [p]) g s (pre.length + 1) hm hs (by simpa using h) (by simp)
     have g1 := hs.get2 p.data
     rw [hg] at g1
     simp only [go_sem, Nat.reduceAdd, Nat.reduceLeDiff, f1, f2, f3, Place.cells_eq, List.foldl_cons, knownStep, hg] at e2 ⊢
     simp only [go_sem, g1, Option.getD_some, Option.isSome_some, Bool.not_true]
     exact ⟨s2, e2, h2, m2⟩
theorem Q6u (t : List Place) (hl : t.length < 2^28) (v : AV) (hv : (Slot.val v).list? = some (t.map Place.enc)) (s : St) :
  ∃ s', cw (.f Q1e) [v] s = some (.ret (.val (.mp s.locs.length)), s') ∧ MapSI s' s.locs.length (knownD t) ∧ Grew s s' := by
 have m0 : Moves [] [] [] s (s.addLoc (.map [] 0)) := (Moves.refl _ _ s).addLoc _
 obtain ⟨s1, e1, h1, m1⟩ := (MapSI.new s).setNew m0 (Nat.le_refl _) sInt (-1)
 obtain ⟨s2, e2, h2, m2⟩ := h1.setNew m1 (Nat.le_refl _) sBool (-1)
 obtain ⟨s3, e3, h3, m3⟩ := h2.setNew m2 (Nat.le_refl _) sUnit (-1)
 obtain ⟨s4, e4, h4, m4⟩ := h3.setNew m3 (Nat.le_refl _) sExn (-1)
 obtain ⟨s5, e5, h5, m5⟩ := h4.setNew m4 (Nat.le_refl _) sRef (-1)
 obtain ⟨s6, e6, h6, m6⟩ := h5.setNew m5 (Nat.le_refl _) sArrow (-1)
 obtain ⟨s7, e7, h7, m7⟩ := h6.setNew m6 (Nat.le_refl _) sStar (-1)
 obtain ⟨s8, e8, h8, m8⟩ := Q1t t hl (.val v) hv s s.locs.length (Nat.le_refl _) t [] known0 s7 0 m7 h7 rfl rfl
 refine ⟨s8, ?_, h8, m8⟩
 rw [show ((0 : Nat) : Int) = 0 from rfl] at e8
 simp only [sInt, sBool, sUnit, sExn, sRef, sArrow, sStar] at e1 e2 e3 e4 e5 e6 e7
 rw [Q8k]
 simp only [go_sem, Int.reduceNeg, e1, e2, e3, e4, e5, e6, e7, hv, List.length_map] at e8 ⊢
 exact e8
def wrFn (params : Int) (mloc me : Nat) : AV := .fn ZT [.cp [.int .i64 params], .cp [.mp mloc], .vp me 0]
structure WrAt (s : St) (g : Str → Option Int) (params : Int) (mloc me : Nat) : Prop where
 map : MapSI s mloc g
 fn : s.locs[me]? = some (.var [.val (wrFn params mloc me)])
theorem WrAt.move {s s' : St} {g : Str → Option Int} {params : Int} {mloc me : Nat} (h : WrAt s g params mloc me) (k : Grew s s') : WrAt s' g params mloc me := ⟨h.map.move k, k.loc h.fn⟩
def WrOK (g : Str → Option Int) (params : Int) (mloc me : Nat) (t : Ty) : Prop := ∀ s, WrAt s g params mloc me → cw (.f ZT) [t.enc, .cp [.int .i64 params], .cp [.mp mloc], .vp me 0] s = some (.ret (.val (.tup [.int .i64 (wrongD g params t).1, .str (wrongD g params t).2])), s)
theorem Q37 (g : Str → Option Int) (params : Int) (mloc me : Nat) (l : List Ty) (hl : l.length < 2^28) (y : Slot) (hy : y.list? = some (l.map Ty.enc)) (s : St) (hs : WrAt s g params mloc me) : ∀ (suf pre : List Ty) (i : Nat), pre ++ suf = l → i = pre.length → (∀ t ∈ suf, WrOK g params mloc me t) →
  ZF (.val (.vp me 0)) y (.val (.int .i64 l.length)) (.val (.int .i64 i)) s = some (.ret (.val (.tup [.int .i64 (wrongsD g params suf).1, .str (wrongsD g params suf).2])), s)
 | [], pre, i, h, hi, H => by
   subst hi
   rw [Q20]; simp only [go_sem, Qd (by simpa using h), wrongsD]
 | t :: suf, pre, i, h, hi, H => by
   subst hi
   obtain ⟨f1, f2, f3⟩ := Q8 hy h (by omega) (Ty.cells_len t) (by decide)
   have e1 := H t List.mem_cons_self s hs
   have ih := Q37 g params mloc me l hl y hy s hs suf (pre ++ [t]) (pre.length + 1) (by simpa using h) (by simp) (fun w hw => H w (List.mem_cons_of_mem _ hw))
   have f4 : ∀ t : TI, ldV t false s (.val (.vp me 0)) = ofSlots t (([.val (wrFn params mloc me)] : List Slot).take t.size) := fun t => Q4T hs.fn
   rw [Q20]
   simp only [go_sem, Nat.reduceAdd, Nat.reduceLeDiff, ne_eq, f1, f2, f3, f4, wrFn, wrongsD, e1] at ih ⊢
   by_cases hn : (wrongD g params t).1 = 0
   ·simp only [go_sem, hn, ih, not_true_eq_false, if_false]
   ·simp only [go_sem, not_false_eq_true, hn, if_true]
theorem Q2e (g : Str → Option Int) (params : Int) (mloc me : Nat) : ∀ (k : Nat) (t : Ty), t.size ≤ k → WideTy t → WrOK g params mloc me t
 | 0, .mk _ _ _ _ _, h, _ => by simp only [Ty.size] at h; omega
 | k + 1, .mk kd n nm l nl, h, h' => fun s hs => by
   simp only [Ty.size] at h
   have hl := h'.len
   have e1 := Q37 g params mloc me l hl (.val (encS nl (l.map Ty.enc))) (Qk _ _) s hs l [] 0 rfl rfl (fun t ht => by
    have := Ty.mem_sizes ht
    exact Q2e g params mloc me k t (by omega) (h'.arg ht))
   rw [show ((0 : Nat) : Int) = 0 from rfl] at e1
   have g1 := hs.map.get2 nm
   rw [Q6v]
   by_cases hk : kd = 1
   ·subst hk
    simp only [go_sem, Nat.reduceAdd, Nat.reduceLeDiff, ne_eq, Ty.enc, wrongD, if_true]
    by_cases hn : n ≥ params
    ·simp only [go_sem, hn, if_true, decide_true]
    ·simp only [go_sem, hn, if_false, decide_false]
   ·cases hg : g nm with
    | none =>
      rw [hg] at g1
      simp only [go_sem, Nat.reduceAdd, Nat.reduceLeDiff, Ty.enc, wrongD, hk, hg, g1, if_false, decide_false, Option.isSome_none, Bool.not_false]
    | some m =>
      rw [hg] at g1
      simp only [go_sem, Nat.reduceAdd, Nat.reduceLeDiff, ne_eq, Ty.enc, wrongD, hk, hg, g1, if_false, decide_false, Option.isSome_some, Bool.not_true, Option.getD_some, List.length_map]
      by_cases h1 : m ≥ 0
      ·by_cases h2 : m = (l.length : Int)
       ·simp only [go_sem, not_false_eq_true, h1, h2, e1]
        simp
       ·simp only [go_sem, not_false_eq_true, h1, h2, e1]
        simp
      ·simp only [go_sem, h1, e1]
       simp
theorem Q6w (g : Str → Option Int) (params : Int) (t : Ty) (hw : WideTy t) (mloc : Nat) (s : St) (hs : MapSI s mloc g) : ∃ s', cw (.f Q2z) [.mp mloc, .int .i64 params, t.enc] s = some (.ret (.val (.tup [.int .i64 (wrongD g params t).1, .str (wrongD g params t).2])), s') ∧ Grew s s' := by
 have hg : Grew s (s.addLoc (.var [.val (wrFn params mloc s.locs.length)])) := (Grew.refl s).addLoc _
 have hf : (s.addLoc (.var [.val (wrFn params mloc s.locs.length)])).locs[s.locs.length]? = some (.var [.val (wrFn params mloc s.locs.length)]) := Q31 _ _
 have e1 := Q2e g params mloc s.locs.length _ t (Nat.le_refl _) hw _ ⟨hs.move hg, hf⟩
 have f4 : ∀ t : TI, ldV t false (s.addLoc (.var [.val (wrFn params mloc s.locs.length)])) (.val (.vp s.locs.length 0)) = ofSlots t (([.val (wrFn params mloc s.locs.length)] : List Slot).take t.size) := fun t => Q4T hf
 refine ⟨_, ?_, hg⟩
 rw [Q8m]
 simp only [Ty.enc, wrFn] at e1 f4
 simp only [go_sem, Nat.reduceAdd, Nat.reduceLeDiff, Ty.enc, f4, e1, wrFn]
end Go.Proofs.Ytoahliipbclneaa
namespace Go.Proofs.Ytoahliipbclneaa
open Go Go.Am
set_option linter.unusedVariables false
structure ScI (σ : Type) where
 con : Str → Int → Int → σ → σ
 free : Str → Int → σ → σ
 fail : Int → Int → Str → σ → σ
 stop : σ → Bool
def addS (out : List Str) (s : Str) : List Str := if s ∈ out then out else out ++ [s]
def varsCases : List Case → List Str
 | [] => []
 | .mk p _ :: l => varsPat p ++ varsCases l
def namesOf (k : Int) (c : List Case) (f : List Fun) : List Str := (bif decide (k = 1) then varsCases c else bif decide (k = 2) then f.map Fun.name else []).foldl addS []
section
variable {σ : Type} (I : ScI σ)
mutual
def scPat : Pat → List Str × σ → List Str × σ
 | .mk k a nm _ l _, st => scPats l (bif decide (k = 2) || decide (k = 6) then (st.1 ++ [nm], if nm ∈ st.1 then I.fail 9 a nm st.2 else st.2) else bif decide (k = 4) then (st.1, I.con nm a l.length st.2) else st)
def scPats : List Pat → List Str × σ → List Str × σ
 | [], st => st
 | p :: l, st => scPats l (scPat p st)
end
def scVar (k a : Int) (nm : Str) (kids : Nat) (bd : List Str) (st : σ) : σ :=
 bif decide (k = 2) then (if nm ∈ bd then st else I.free nm a st) else bif decide (k = 3) then I.con nm a kids st else st
mutual
def scCase : Case → List Str → σ → σ
 | .mk p e, bd, st => scExp e (varsPat p ++ bd) (scPat I p ([], st)).2
def scExp : Exp → List Str → σ → σ
 | .mk k a nm _ l _ c _ d _, bd, st => bif I.stop st then st else
   scCases c (scDecs d bd (scVar I k a nm l.length bd st)).1 (scExps l (scDecs d bd (scVar I k a nm l.length bd st)).1 (scDecs d bd (scVar I k a nm l.length bd st)).2)
def scExps : List Exp → List Str → σ → σ
 | [], _, st => st
 | e :: l, bd, st => scExps l bd (scExp e bd st)
def scCases : List Case → List Str → σ → σ
 | [], _, st => st
 | c :: l, bd, st => scCases l bd (scCase c bd st)
def scDecs : List Dec → List Str → σ → List Str × σ
 | [], bd, st => (bd, st)
 | d :: r, bd, st => scDecs r (scDec d bd st).1 (scDec d bd st).2
def scDec : Dec → List Str → σ → List Str × σ
 | .mk k _ _ _ _ _ c _ f _, bd, st => bif decide (k = 1) then (namesOf k c f ++ bd, scVals c bd st) else bif decide (k = 2) then (namesOf k c f ++ bd, scFuns f (namesOf k c f ++ bd) [] st) else (bd, st)
def scVals : List Case → List Str → σ → σ
 | [], _, st => st
 | .mk p e :: r, bd, st => scVals r bd (scExp e bd (scPat I p ([], st)).2)
def scFuns : List Fun → List Str → List Str → σ → σ
 | [], _, _, st => st
 | .mk nm a c :: r, bd, had, st => scFuns r bd (had ++ [nm]) (scCase c bd (if nm ∈ had then I.fail 9 a nm st else st))
end
end
end Go.Proofs.Ytoahliipbclneaa
namespace Go.Proofs.Ytoahliipbclneaa
open Go Go.Am
set_option linter.unusedVariables false
set_option maxRecDepth 4000
theorem _root_.Go.Am.Moves.next {A B h0 h h' : List Nat} {s0 s s' : St} (m : Moves A h0 h s0 s) (c : Moves B h h' s s') (hB : ∀ i ∈ B, i ∈ A ∨ s0.locs.length ≤ i) : Moves A h0 h' s0 s' where
 tl := Nat.le_trans m.tl c.tl
 tk := fun k hk hn => by
  have := m.tl
  rw [c.tk k (by omega) (fun hm => (m.new k hm).elim hn (fun h => by omega)), m.tk k hk hn]
 new := fun k hk => (c.new k hk).elim (m.new k) (fun h => .inr (Nat.le_trans m.tl h))
 ll := Nat.le_trans m.ll c.ll
 lk := fun i hi hn => by
  have := m.ll
  rw [c.lk i (by omega) (fun hm => (hB i hm).elim hn (fun h => by omega)), m.lk i hi hn]
def KN (s : St) (loc : Nat) (bd : List Str) : Prop := ∃ g, MapSI s loc g ∧ ∀ k, (g k).getD 0 = (bd.count k : Int)
theorem KN.new (s : St) : KN (s.addLoc (.map [] 0)) s.locs.length [] := ⟨_, MapSI.new s, fun k => by simp⟩
theorem KN.lt {s : St} {loc : Nat} {bd : List Str} (h : KN s loc bd) : loc < s.locs.length := by obtain ⟨g, h1, -⟩ := h; exact h1.lt
theorem KN.at {s s' : St} {loc : Nat} {bd : List Str} (h : KN s loc bd) (e : s'.locs[loc]? = s.locs[loc]?) : KN s' loc bd := by
 obtain ⟨g, ⟨es, c, D, h1, h2⟩, h3⟩ := h
 exact ⟨g, ⟨es, c, D, by rw [e]; exact h1, h2⟩, h3⟩
theorem KN.moves {A h1 h2 : List Nat} {s s' : St} {loc : Nat} {bd : List Str} (h : KN s loc bd) (m : Moves A h1 h2 s s') (hn : loc ∉ A) : KN s' loc bd := h.at (m.lk loc h.lt hn)
theorem KN.get {s : St} {loc : Nat} {bd : List Str} (h : KN s loc bd) (k : Str) : lookupS (C.ti Q2) (C.ti Q1) s (.val (.mp loc)) (.val (.str k)) false = some (.val (.int .i64 (bd.count k : Nat))) := by
 obtain ⟨g, h1, h2⟩ := h
 rw [h1.get k, h2]
theorem KN.set {s : St} {loc : Nat} {bd bd' : List Str} (h : KN s loc bd) (k : Str) (n : Int) (hn : n = (bd'.count k : Nat)) (ho : ∀ k', k' ≠ k → bd'.count k' = bd.count k') :
  ∃ s', updateS (C.ti Q2) (C.ti Q1) s (.val (.mp loc)) (.val (.str k)) (.val (.int .i64 n)) = some (.no, s') ∧ KN s' loc bd' ∧ (∀ hs, Moves [loc] hs hs s s') ∧ s'.toks = s.toks ∧ s'.locs.length = s.locs.length := by
 obtain ⟨g, h1, h2⟩ := h
 obtain ⟨s', e1, h3, h4, h5, h6⟩ := h1.set k n
 refine ⟨s', e1, ⟨_, h3, fun k' => ?_⟩, h4, h5, h6⟩
 by_cases e : k' = k
 ·subst e; rw [QcL]; exact hn
 ·rw [Qfa _ _ e, h2, ho k' e]
theorem Q2Y {n : Nat} (h : n < 2^62) : IntKind.i64.wrap ((n : Int) + 1) = ((n + 1 : Nat) : Int) := by rw [wrap64 (by omega) (by omega)]; rfl
theorem QcP {n : Nat} (h : n < 2^62) : IntKind.i64.wrap (((n + 1 : Nat) : Int) - 1) = (n : Int) := by rw [wrap64 (by omega) (by omega)]; omega
theorem KN.inc {s : St} {loc : Nat} {bd : List Str} (h : KN s loc bd) (k : Str) (hl : bd.length < 2^62) :
  ∃ s', updateS (C.ti Q2) (C.ti Q1) s (.val (.mp loc)) (.val (.str k)) (.val (.int .i64 (IntKind.i64.wrap ((bd.count k : Nat) + 1)))) = some (.no, s') ∧ KN s' loc (bd ++ [k]) ∧ (∀ hs, Moves [loc] hs hs s s') ∧ s'.toks = s.toks ∧ s'.locs.length = s.locs.length := by
 have := List.count_le_length (a := k) (l := bd)
 refine h.set k _ ?_ fun k' hk => ?_
 ·rw [Q2Y (by omega)]; simp
 ·have : [k].count k' = 0 := List.count_eq_zero.2 (by simpa using hk)
  rw [List.count_append, this]; rfl
section
variable {σ : Type}
structure RW (R : Nat → σ → List Nat → St → Prop) (kl : Nat) (n : Nat) (st : σ) (bd : List Str) (h : List Nat) (s : St) : Prop where
 r : R n st h s
 kn : KN s kl bd
 few : bd.length + n < 2^40
variable {I : ScI σ} {wl kl : Nat} {A : List Nat} {cf : FuncId} {cc : List AV} {ff : FuncId} {fc : List AV} {R : Nat → σ → List Nat → St → Prop}
end
end Go.Proofs.Ytoahliipbclneaa