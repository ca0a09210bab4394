/- The document's way: are two trees the same? -/
import Derived.Test.YtemfpnlpnmglfaaPSame
import Derived.Test.YtemfpnlpnmglfaaG
set_option linter.unusedVariables false
set_option linter.unusedSimpArgs false
namespace Go.Am
open Go
@[go_sem] theorem gd_bsl1 (b : Bool) (sz : Nat) (x : Slot) (r : List Slot) : gd b (fullO (bslS sz (gdV b x :: r))) = gd b (fullO (bslS sz (x :: r))) := by cases b <;> rfl
end Go.Am

namespace Go.Proofs.Ytemfpnlpnmglfaa
open Go Go.Am
set_option maxRecDepth 4000

theorem suf_nil {α : Type} {L M pre pre' suf' : List α} (h : pre ++ [] = L) (g : pre' ++ suf' = M) (hp : pre'.length = pre.length) (he : M.length = L.length) : suf' = [] := by
  have h1 := congrArg List.length h
  have h2 := congrArg List.length g
  simp only [List.length_append, List.length_nil] at h1 h2
  exact List.eq_nil_of_length_eq_zero (by omega)
theorem suf_cons {α : Type} {L M pre pre' suf suf' : List α} {t : α} (h : pre ++ t :: suf = L) (g : pre' ++ suf' = M) (hp : pre'.length = pre.length) (he : M.length = L.length) : ∃ u r, suf' = u :: r := by
  have h1 := congrArg List.length h
  have h2 := congrArg List.length g
  simp only [List.length_append, List.length_cons] at h1 h2
  cases suf' with
  | nil => simp only [List.length_nil] at h2; omega
  | cons u r => exact ⟨u, r, rfl⟩

def RSameTy (t : Ty) : Prop := ∀ u s, cw (.f F_ref05_SameTy) [t.enc, u.enc] s = some (.ret (.val (.bool (eqTy t u))), s)
theorem rsameTys_loop (t u : Ty) (hl : t.args.length < 2^40) (he : u.args.length = t.args.length) : ∀ (suf suf' pre pre' : List Ty) (s : St) (i : Nat), pre ++ suf = t.args → pre' ++ suf' = u.args → i = pre.length → pre'.length = pre.length → (∀ t ∈ suf, RSameTy t) →
    ref05_SameTy_l0 (t.cells.map .val) (u.cells.map .val) (.val (.int .i64 i)) s = some (.ret (.val (.bool (eqTys suf suf'))), s)
  | [], suf', pre, pre', s, i, h, g, hi, hp, H => by
    subst hi
    obtain rfl := suf_nil h g hp he
    rw [ref05_SameTy_l0_eq]; simp only [go_sem, Nat.reduceAdd, Nat.reduceLeDiff, Nat.reduceSub, Nat.reduceMul, Nat.reduceEqDiff, Int.reduceEq, Int.reduceLT, Int.reduceLE, Int.reduceAdd, Int.reduceSub, Int.reduceNeg, Int.reduceGT, Int.reduceGE, Int.reduceNe, ne_eq, not_false_eq_true, Ty.cells_eq, end_facts (by simpa using h), eqTys]
  | x :: suf, suf', pre, pre', s, i, h, g, hi, hp, H => by
    subst hi
    obtain ⟨y, suf', rfl⟩ := suf_cons h g hp he
    obtain ⟨f1, f2, f3⟩ := step_facts (x := .val (encS t.nl (t.args.map Ty.enc))) (list?_encS _ _) h (by omega) (Ty.cells_len x) (by decide)
    obtain ⟨-, g2, -⟩ := step_facts (x := .val (encS u.nl (u.args.map Ty.enc))) (list?_encS _ _) g (by omega) (Ty.cells_len y) (by decide)
    rw [hp] at g2
    have e1 := H x (List.mem_cons_self) y s
    have ih := rsameTys_loop t u hl he suf suf' (pre ++ [x]) (pre' ++ [y]) s (pre.length + 1) (by simpa using h) (by simpa using g) (by simp) (by simp [hp]) (fun w hw => H w (List.mem_cons_of_mem _ hw))
    rw [ref05_SameTy_l0_eq]; rw [Ty.cells_eq, Ty.cells_eq] at ih ⊢; simp only [go_sem, Nat.reduceAdd, Nat.reduceLeDiff, Nat.reduceSub, Nat.reduceMul, Nat.reduceEqDiff, Int.reduceEq, Int.reduceLT, Int.reduceLE, Int.reduceAdd, Int.reduceSub, Int.reduceNeg, Int.reduceGT, Int.reduceGE, Int.reduceNe, ne_eq, not_false_eq_true, f1, f2, f3, g2, e1] at ih ⊢
    simp only [go_sem, Nat.reduceAdd, Nat.reduceLeDiff, Nat.reduceSub, Nat.reduceMul, Nat.reduceEqDiff, Int.reduceEq, Int.reduceLT, Int.reduceLE, Int.reduceAdd, Int.reduceSub, Int.reduceNeg, Int.reduceGT, Int.reduceGE, Int.reduceNe, ne_eq, not_false_eq_true, ih, eqTys]
    cases eqTy x y <;> rfl

def RSamePat (w : Bool) (t : Pat) : Prop := ∀ u s, cw (.f F_ref05_SamePat) [t.enc, u.enc, .bool w] s = some (.ret (.val (.bool (eqPat w t u))), s)
theorem rsamePats_loop (w : Bool) (t u : Pat) (hl : t.kids.length < 2^40) (he : u.kids.length = t.kids.length) : ∀ (suf suf' pre pre' : List Pat) (s : St) (i : Nat), pre ++ suf = t.kids → pre' ++ suf' = u.kids → i = pre.length → pre'.length = pre.length → (∀ t ∈ suf, RSamePat w t) →
    ref05_SamePat_l0 (.val (.bool w)) (t.cells.map .val) (u.cells.map .val) (.val (.int .i64 i)) s = some (.ret (.val (.bool (eqPats w suf suf'))), s)
  | [], suf', pre, pre', s, i, h, g, hi, hp, H => by
    subst hi
    obtain rfl := suf_nil h g hp he
    rw [ref05_SamePat_l0_eq]; simp only [go_sem, Nat.reduceAdd, Nat.reduceLeDiff, Nat.reduceSub, Nat.reduceMul, Nat.reduceEqDiff, Int.reduceEq, Int.reduceLT, Int.reduceLE, Int.reduceAdd, Int.reduceSub, Int.reduceNeg, Int.reduceGT, Int.reduceGE, Int.reduceNe, ne_eq, not_false_eq_true, Pat.cells_eq, end_facts (by simpa using h), eqPats]
  | x :: suf, suf', pre, pre', s, i, h, g, hi, hp, H => by
    subst hi
    obtain ⟨y, suf', rfl⟩ := suf_cons h g hp he
    obtain ⟨f1, f2, f3⟩ := step_facts (x := .val (encS t.kb (t.kids.map Pat.enc))) (list?_encS _ _) h (by omega) (Pat.cells_len x) (by decide)
    obtain ⟨-, g2, -⟩ := step_facts (x := .val (encS u.kb (u.kids.map Pat.enc))) (list?_encS _ _) g (by omega) (Pat.cells_len y) (by decide)
    rw [hp] at g2
    have e1 := H x (List.mem_cons_self) y s
    have ih := rsamePats_loop w t u hl he suf suf' (pre ++ [x]) (pre' ++ [y]) s (pre.length + 1) (by simpa using h) (by simpa using g) (by simp) (by simp [hp]) (fun w hw => H w (List.mem_cons_of_mem _ hw))
    rw [ref05_SamePat_l0_eq]; rw [Pat.cells_eq, Pat.cells_eq] at ih ⊢; simp only [go_sem, Nat.reduceAdd, Nat.reduceLeDiff, Nat.reduceSub, Nat.reduceMul, Nat.reduceEqDiff, Int.reduceEq, Int.reduceLT, Int.reduceLE, Int.reduceAdd, Int.reduceSub, Int.reduceNeg, Int.reduceGT, Int.reduceGE, Int.reduceNe, ne_eq, not_false_eq_true, f1, f2, f3, g2, e1] at ih ⊢
    simp only [go_sem, Nat.reduceAdd, Nat.reduceLeDiff, Nat.reduceSub, Nat.reduceMul, Nat.reduceEqDiff, Int.reduceEq, Int.reduceLT, Int.reduceLE, Int.reduceAdd, Int.reduceSub, Int.reduceNeg, Int.reduceGT, Int.reduceGE, Int.reduceNe, ne_eq, not_false_eq_true, ih, eqPats]
    cases eqPat w x y <;> rfl

def RSameExp (w : Bool) (t : Exp) : Prop := ∀ u s, cw (.f F_ref05_SameExp) [t.enc, u.enc, .bool w] s = some (.ret (.val (.bool (eqExp w t u))), s)
theorem rsameExps_loop (w : Bool) (t u : Exp) (hl : t.kids.length < 2^40) (he : u.kids.length = t.kids.length) : ∀ (suf suf' pre pre' : List Exp) (s : St) (i : Nat), pre ++ suf = t.kids → pre' ++ suf' = u.kids → i = pre.length → pre'.length = pre.length → (∀ t ∈ suf, RSameExp w t) →
    ref05_SameExp_l0 (.val (.bool w)) (t.cells.map .val) (u.cells.map .val) (.val (.int .i64 i)) s = some (.ret (.val (.bool (eqExps w suf suf'))), s)
  | [], suf', pre, pre', s, i, h, g, hi, hp, H => by
    subst hi
    obtain rfl := suf_nil h g hp he
    rw [ref05_SameExp_l0_eq]; simp only [go_sem, Nat.reduceAdd, Nat.reduceLeDiff, Nat.reduceSub, Nat.reduceMul, Nat.reduceEqDiff, Int.reduceEq, Int.reduceLT, Int.reduceLE, Int.reduceAdd, Int.reduceSub, Int.reduceNeg, Int.reduceGT, Int.reduceGE, Int.reduceNe, ne_eq, not_false_eq_true, Exp.cells_eq, end_facts (by simpa using h), eqExps]
  | x :: suf, suf', pre, pre', s, i, h, g, hi, hp, H => by
    subst hi
    obtain ⟨y, suf', rfl⟩ := suf_cons h g hp he
    obtain ⟨f1, f2, f3⟩ := step_facts (x := .val (encS t.kb (t.kids.map Exp.enc))) (list?_encS _ _) h (by omega) (Exp.cells_len x) (by decide)
    obtain ⟨-, g2, -⟩ := step_facts (x := .val (encS u.kb (u.kids.map Exp.enc))) (list?_encS _ _) g (by omega) (Exp.cells_len y) (by decide)
    rw [hp] at g2
    have e1 := H x (List.mem_cons_self) y s
    have ih := rsameExps_loop w t u hl he suf suf' (pre ++ [x]) (pre' ++ [y]) s (pre.length + 1) (by simpa using h) (by simpa using g) (by simp) (by simp [hp]) (fun w hw => H w (List.mem_cons_of_mem _ hw))
    rw [ref05_SameExp_l0_eq]; rw [Exp.cells_eq, Exp.cells_eq] at ih ⊢; simp only [go_sem, Nat.reduceAdd, Nat.reduceLeDiff, Nat.reduceSub, Nat.reduceMul, Nat.reduceEqDiff, Int.reduceEq, Int.reduceLT, Int.reduceLE, Int.reduceAdd, Int.reduceSub, Int.reduceNeg, Int.reduceGT, Int.reduceGE, Int.reduceNe, ne_eq, not_false_eq_true, f1, f2, f3, g2, e1] at ih ⊢
    simp only [go_sem, Nat.reduceAdd, Nat.reduceLeDiff, Nat.reduceSub, Nat.reduceMul, Nat.reduceEqDiff, Int.reduceEq, Int.reduceLT, Int.reduceLE, Int.reduceAdd, Int.reduceSub, Int.reduceNeg, Int.reduceGT, Int.reduceGE, Int.reduceNe, ne_eq, not_false_eq_true, ih, eqExps]
    cases eqExp w x y <;> rfl

theorem rsameTy_spec : ∀ (m : Nat) (t : Ty), t.size ≤ m → t.size < 2^40 → RSameTy t
  | 0, .mk _ _ _ _ _, h, _ => by simp only [Ty.size] at h; omega
  | m + 1, .mk k n nm l nl, h, h' => fun u s => by
    obtain ⟨k', n', nm', l', nl'⟩ := u
    simp only [Ty.size] at h h'
    have hl := Ty.len_sizes l
    rw [ref05_SameTy_eq]
    by_cases he : l'.length = l.length
    · have e1 := rsameTys_loop (.mk k n nm l nl) (.mk k' n' nm' l' nl') (by simp only [Ty.args]; omega) he l l' [] [] s 0 rfl rfl rfl rfl (fun t ht => by have := Ty.mem_sizes ht; exact rsameTy_spec m t (by omega) (by omega))
      simp only [go_sem, Nat.reduceAdd, Nat.reduceLeDiff, Nat.reduceSub, Nat.reduceMul, Nat.reduceEqDiff, Int.reduceEq, Int.reduceLT, Int.reduceLE, Int.reduceAdd, Int.reduceSub, Int.reduceNeg, Int.reduceGT, Int.reduceGE, Int.reduceNe, ne_eq, not_false_eq_true] at e1
      rw [show ((0 : Nat) : Int) = 0 from rfl] at e1
      simp only [go_sem, Nat.reduceAdd, Nat.reduceLeDiff, Nat.reduceSub, Nat.reduceMul, Nat.reduceEqDiff, Int.reduceEq, Int.reduceLT, Int.reduceLE, Int.reduceAdd, Int.reduceSub, Int.reduceNeg, Int.reduceGT, Int.reduceGE, Int.reduceNe, ne_eq, not_false_eq_true, Ty.enc, e1, eqTy, decide_eq_true (show ((l.length : Int) = l'.length) by omega)]
      generalize decide (k = k') = b1
      generalize decide (n = n') = b2
      generalize decide (nm = nm') = b3
      cases b1 <;> cases b2 <;> cases b3 <;> rfl
    · simp only [go_sem, Nat.reduceAdd, Nat.reduceLeDiff, Nat.reduceSub, Nat.reduceMul, Nat.reduceEqDiff, Int.reduceEq, Int.reduceLT, Int.reduceLE, Int.reduceAdd, Int.reduceSub, Int.reduceNeg, Int.reduceGT, Int.reduceGE, Int.reduceNe, ne_eq, not_false_eq_true, Ty.enc, eqTy, eqTys_len l l' (fun h => he h.symm), decide_eq_false (show ¬ ((l.length : Int) = l'.length) by omega)]

theorem rsamePat_spec (w : Bool) : ∀ (m : Nat) (t : Pat), t.size ≤ m → t.size < 2^40 → RSamePat w t
  | 0, .mk _ _ _ _ _ _, h, _ => by simp only [Pat.size] at h; omega
  | m + 1, .mk k a nm n l nl, h, h' => fun u s => by
    obtain ⟨k', a', nm', n', l', nl'⟩ := u
    simp only [Pat.size] at h h'
    have hl := Pat.len_sizes l
    rw [ref05_SamePat_eq]
    by_cases he : l'.length = l.length
    · have e1 := rsamePats_loop w (.mk k a nm n l nl) (.mk k' a' nm' n' l' nl') (by simp only [Pat.kids]; omega) he l l' [] [] s 0 rfl rfl rfl rfl (fun t ht => by have := Pat.mem_sizes ht; exact rsamePat_spec w m t (by omega) (by omega))
      simp only [go_sem, Nat.reduceAdd, Nat.reduceLeDiff, Nat.reduceSub, Nat.reduceMul, Nat.reduceEqDiff, Int.reduceEq, Int.reduceLT, Int.reduceLE, Int.reduceAdd, Int.reduceSub, Int.reduceNeg, Int.reduceGT, Int.reduceGE, Int.reduceNe, ne_eq, not_false_eq_true] at e1
      rw [show ((0 : Nat) : Int) = 0 from rfl] at e1
      simp only [go_sem, Nat.reduceAdd, Nat.reduceLeDiff, Nat.reduceSub, Nat.reduceMul, Nat.reduceEqDiff, Int.reduceEq, Int.reduceLT, Int.reduceLE, Int.reduceAdd, Int.reduceSub, Int.reduceNeg, Int.reduceGT, Int.reduceGE, Int.reduceNe, ne_eq, not_false_eq_true, Pat.enc, e1, eqPat, atB, decide_eq_true (show ((l.length : Int) = l'.length) by omega)]
      generalize decide (k = k') = b1
      generalize decide (n = n') = b2
      generalize decide (nm = nm') = b3
      generalize decide (a = a') = b4
      cases b1 <;> cases b2 <;> cases b3 <;> cases b4 <;> cases w <;> rfl
    · simp only [go_sem, Nat.reduceAdd, Nat.reduceLeDiff, Nat.reduceSub, Nat.reduceMul, Nat.reduceEqDiff, Int.reduceEq, Int.reduceLT, Int.reduceLE, Int.reduceAdd, Int.reduceSub, Int.reduceNeg, Int.reduceGT, Int.reduceGE, Int.reduceNe, ne_eq, not_false_eq_true, Pat.enc, eqPat, atB, eqPats_len w l l' (fun h => he h.symm), decide_eq_false (show ¬ ((l.length : Int) = l'.length) by omega)]

def RSameCases (w : Bool) (L : List Case) : Prop := ∀ M v v' s, (Slot.val v).list? = some (L.map Case.enc) → (Slot.val v').list? = some (M.map Case.enc) → cw (.f F_ref05_sameCases) [v, v', .bool w] s = some (.ret (.val (.bool (eqCases w L M))), s)
theorem rsameCases_loop (w : Bool) (L M : List Case) (x y : Slot) (hx : x.list? = some (L.map Case.enc)) (hy : y.list? = some (M.map Case.enc)) (hl : L.length < 2^40) (he : M.length = L.length) : ∀ (suf suf' pre pre' : List Case) (s : St) (i : Nat), pre ++ suf = L → pre' ++ suf' = M → i = pre.length → pre'.length = pre.length → (∀ c ∈ suf, RSamePat w c.pat ∧ RSameExp w c.exp) →
    ref05_sameCases_l0 x y (.val (.bool w)) (.val (.int .i64 i)) s = some (.ret (.val (.bool (eqCases w suf suf'))), s)
  | [], suf', pre, pre', s, i, h, g, hi, hp, H => by
    subst hi
    obtain rfl := suf_nil h g hp he
    rw [ref05_sameCases_l0_eq]; simp only [go_sem, Nat.reduceAdd, Nat.reduceLeDiff, Nat.reduceSub, Nat.reduceMul, Nat.reduceEqDiff, Int.reduceEq, Int.reduceLT, Int.reduceLE, Int.reduceAdd, Int.reduceSub, Int.reduceNeg, Int.reduceGT, Int.reduceGE, Int.reduceNe, ne_eq, not_false_eq_true, hx, end_facts (by simpa using h), eqCases]
  | .mk p e :: suf, suf', pre, pre', s, i, h, g, hi, hp, H => by
    subst hi
    obtain ⟨y', suf', rfl⟩ := suf_cons h g hp he
    obtain ⟨p', e'⟩ := y'
    obtain ⟨f1, f2, f3⟩ := step_facts hx h (by omega) (Case.cells_len (.mk p e)) (by decide)
    obtain ⟨-, g2, -⟩ := step_facts hy g (by omega) (Case.cells_len (.mk p' e')) (by decide)
    rw [hp] at g2
    obtain ⟨hP, hE⟩ := H (.mk p e) (List.mem_cons_self)
    simp only [Case.pat, Case.exp] at hP hE
    have e1 := hP p'
    have e2 := hE e'
    have ih := rsameCases_loop w L M x y hx hy hl he suf suf' (pre ++ [.mk p e]) (pre' ++ [.mk p' e']) s (pre.length + 1) (by simpa using h) (by simpa using g) (by simp) (by simp [hp]) (fun w hw => H w (List.mem_cons_of_mem _ hw))
    rw [ref05_sameCases_l0_eq]
    simp only [go_sem, Nat.reduceAdd, Nat.reduceLeDiff, Nat.reduceSub, Nat.reduceMul, Nat.reduceEqDiff, Int.reduceEq, Int.reduceLT, Int.reduceLE, Int.reduceAdd, Int.reduceSub, Int.reduceNeg, Int.reduceGT, Int.reduceGE, Int.reduceNe, ne_eq, not_false_eq_true, hx, f1, f2, f3, g2, e1, e2, ih, eqCases, eqCase]
    generalize eqPat w p p' = b1
    generalize eqExp w e e' = b2
    cases b1 <;> cases b2 <;> rfl
theorem rsameCases_spec (w : Bool) (L : List Case) (hl : L.length < 2^40) (H : ∀ c ∈ L, RSamePat w c.pat ∧ RSameExp w c.exp) : RSameCases w L := fun M v v' s hv hv' => by
  rw [ref05_sameCases_eq]; simp only [go_sem, Nat.reduceAdd, Nat.reduceLeDiff, Nat.reduceSub, Nat.reduceMul, Nat.reduceEqDiff, Int.reduceEq, Int.reduceLT, Int.reduceLE, Int.reduceAdd, Int.reduceSub, Int.reduceNeg, Int.reduceGT, Int.reduceGE, Int.reduceNe, ne_eq, not_false_eq_true, hv, hv', List.length_map]
  by_cases he : M.length = L.length
  · have h1 := rsameCases_loop w L M (.val v) (.val v') hv hv' hl he L M [] [] s 0 rfl rfl rfl rfl H
    rw [show ((0 : Nat) : Int) = 0 from rfl] at h1
    simp only [go_sem, Nat.reduceAdd, Nat.reduceLeDiff, Nat.reduceSub, Nat.reduceMul, Nat.reduceEqDiff, Int.reduceEq, Int.reduceLT, Int.reduceLE, Int.reduceAdd, Int.reduceSub, Int.reduceNeg, Int.reduceGT, Int.reduceGE, Int.reduceNe, ne_eq, not_false_eq_true, decide_eq_true (show ((L.length : Int) = M.length) by omega), h1]
  · simp only [go_sem, Nat.reduceAdd, Nat.reduceLeDiff, Nat.reduceSub, Nat.reduceMul, Nat.reduceEqDiff, Int.reduceEq, Int.reduceLT, Int.reduceLE, Int.reduceAdd, Int.reduceSub, Int.reduceNeg, Int.reduceGT, Int.reduceGE, Int.reduceNe, ne_eq, not_false_eq_true, decide_eq_false (show ¬ ((L.length : Int) = M.length) by omega), eqCases_len w L M (fun h => he h.symm)]

theorem rsameDec_l1_loop (w : Bool) (t u : Dec) (hl : t.funs.length < 2^40) (he : u.funs.length = t.funs.length) : ∀ (suf suf' pre pre' : List Fun) (s : St) (i : Nat), pre ++ suf = t.funs → pre' ++ suf' = u.funs → i = pre.length → pre'.length = pre.length → (∀ f ∈ suf, RSameCases w [f.case]) →
    ref05_sameDec_l1 (.val (.bool w)) (t.cells.map .val) (u.cells.map .val) (.val (.int .i64 i)) s = some (.ret (.val (.bool (eqFuns w suf suf'))), s)
  | [], suf', pre, pre', s, i, h, g, hi, hp, H => by
    subst hi
    obtain rfl := suf_nil h g hp he
    rw [ref05_sameDec_l1_eq]; simp only [go_sem, Nat.reduceAdd, Nat.reduceLeDiff, Nat.reduceSub, Nat.reduceMul, Nat.reduceEqDiff, Int.reduceEq, Int.reduceLT, Int.reduceLE, Int.reduceAdd, Int.reduceSub, Int.reduceNeg, Int.reduceGT, Int.reduceGE, Int.reduceNe, ne_eq, not_false_eq_true, Dec.cells_eq, end_facts (by simpa using h), eqFuns]
  | .mk nm a c :: suf, suf', pre, pre', s, i, h, g, hi, hp, H => by
    subst hi
    obtain ⟨y', suf', rfl⟩ := suf_cons h g hp he
    obtain ⟨nm', a', c'⟩ := y'
    obtain ⟨f1, f2, f3⟩ := step_facts (x := .val (encS t.fb (t.funs.map Fun.enc))) (list?_encS _ _) h (by omega) (Fun.cells_len (.mk nm a c)) (by decide)
    obtain ⟨-, g2, -⟩ := step_facts (x := .val (encS u.fb (u.funs.map Fun.enc))) (list?_encS _ _) g (by omega) (Fun.cells_len (.mk nm' a' c')) (by decide)
    rw [hp] at g2
    have e1 := fun s => H (.mk nm a c) (List.mem_cons_self) [c'] (.sl [c.enc]) (.sl [c'.enc]) s rfl rfl
    simp only [Fun.case, eqCases, Bool.and_true] at e1
    have ih := rsameDec_l1_loop w t u hl he suf suf' (pre ++ [.mk nm a c]) (pre' ++ [.mk nm' a' c']) s (pre.length + 1) (by simpa using h) (by simpa using g) (by simp) (by simp [hp]) (fun w hw => H w (List.mem_cons_of_mem _ hw))
    rw [ref05_sameDec_l1_eq]; rw [Dec.cells_eq, Dec.cells_eq] at ih ⊢
    simp only [go_sem, Nat.reduceAdd, Nat.reduceLeDiff, Nat.reduceSub, Nat.reduceMul, Nat.reduceEqDiff, Int.reduceEq, Int.reduceLT, Int.reduceLE, Int.reduceAdd, Int.reduceSub, Int.reduceNeg, Int.reduceGT, Int.reduceGE, Int.reduceNe, ne_eq, not_false_eq_true] at ih f1 f2 g2
    simp only [go_sem, Nat.reduceAdd, Nat.reduceLeDiff, Nat.reduceSub, Nat.reduceMul, Nat.reduceEqDiff, Int.reduceEq, Int.reduceLT, Int.reduceLE, Int.reduceAdd, Int.reduceSub, Int.reduceNeg, Int.reduceGT, Int.reduceGE, Int.reduceNe, ne_eq, not_false_eq_true, f1, f2, f3, g2, e1, ih, eqFuns, eqFun, atB]
    generalize decide (nm = nm') = b1
    generalize decide (a = a') = b2
    generalize eqCase w c c' = b3
    cases b1 <;> cases b2 <;> cases b3 <;> cases w <;> rfl

theorem rsameDec_l0_loop (w : Bool) (t u : Dec) (hl : t.cons.length < 2^40) (he : u.cons.length = t.cons.length) (hsz : Con.sizes t.cons < 2^40) (z : Bool) (K : ∀ s, ref05_sameDec_l1 (.val (.bool w)) (t.cells.map .val) (u.cells.map .val) (.val (.int .i64 0)) s = some (.ret (.val (.bool z)), s)) : ∀ (suf suf' pre pre' : List Con) (s : St) (i : Nat), pre ++ suf = t.cons → pre' ++ suf' = u.cons → i = pre.length → pre'.length = pre.length → Con.sizes suf < 2^40 →
    ref05_sameDec_l0 (.val (.bool w)) (t.cells.map .val) (u.cells.map .val) (.val (.int .i64 i)) s = some (.ret (.val (.bool (eqCons w suf suf' && z))), s)
  | [], suf', pre, pre', s, i, h, g, hi, hp, H => by
    subst hi
    obtain rfl := suf_nil h g hp he
    have hK := K s
    rw [ref05_sameDec_l0_eq]; rw [Dec.cells_eq, Dec.cells_eq] at hK ⊢; simp only [go_sem, Nat.reduceAdd, Nat.reduceLeDiff, Nat.reduceSub, Nat.reduceMul, Nat.reduceEqDiff, Int.reduceEq, Int.reduceLT, Int.reduceLE, Int.reduceAdd, Int.reduceSub, Int.reduceNeg, Int.reduceGT, Int.reduceGE, Int.reduceNe, ne_eq, not_false_eq_true] at hK; simp only [go_sem, Nat.reduceAdd, Nat.reduceLeDiff, Nat.reduceSub, Nat.reduceMul, Nat.reduceEqDiff, Int.reduceEq, Int.reduceLT, Int.reduceLE, Int.reduceAdd, Int.reduceSub, Int.reduceNeg, Int.reduceGT, Int.reduceGE, Int.reduceNe, ne_eq, not_false_eq_true, end_facts (by simpa using h), eqCons, hK]
  | ⟨nm, a, hs, ty⟩ :: suf, suf', pre, pre', s, i, h, g, hi, hp, H => by
    subst hi
    obtain ⟨y', suf', rfl⟩ := suf_cons h g hp he
    obtain ⟨nm', a', hs', ty'⟩ := y'
    obtain ⟨f1, f2, f3⟩ := step_facts (x := .val (encS t.nb (t.cons.map Con.enc))) (list?_encS _ _) h (by omega) (Con.cells_len ⟨nm, a, hs, ty⟩) (by decide)
    obtain ⟨-, g2, -⟩ := step_facts (x := .val (encS u.nb (u.cons.map Con.enc))) (list?_encS _ _) g (by omega) (Con.cells_len ⟨nm', a', hs', ty'⟩) (by decide)
    rw [hp] at g2
    simp only [Con.sizes, Con.size] at H
    have e1 := rsameTy_spec ty.size ty (Nat.le_refl _) (by omega) ty'
    have ih := rsameDec_l0_loop w t u hl he hsz z K suf suf' (pre ++ [⟨nm, a, hs, ty⟩]) (pre' ++ [⟨nm', a', hs', ty'⟩]) s (pre.length + 1) (by simpa using h) (by simpa using g) (by simp) (by simp [hp]) (by omega)
    have e2 : (hs == hs') = decide (hs = hs') := by cases hs <;> cases hs' <;> rfl
    rw [ref05_sameDec_l0_eq]; rw [Dec.cells_eq, Dec.cells_eq] at ih ⊢
    simp only [go_sem, Nat.reduceAdd, Nat.reduceLeDiff, Nat.reduceSub, Nat.reduceMul, Nat.reduceEqDiff, Int.reduceEq, Int.reduceLT, Int.reduceLE, Int.reduceAdd, Int.reduceSub, Int.reduceNeg, Int.reduceGT, Int.reduceGE, Int.reduceNe, ne_eq, not_false_eq_true, Con.cells] at ih f1 f2 g2
    simp only [go_sem, Nat.reduceAdd, Nat.reduceLeDiff, Nat.reduceSub, Nat.reduceMul, Nat.reduceEqDiff, Int.reduceEq, Int.reduceLT, Int.reduceLE, Int.reduceAdd, Int.reduceSub, Int.reduceNeg, Int.reduceGT, Int.reduceGE, Int.reduceNe, ne_eq, not_false_eq_true, f1, f2, f3, g2, e1, ih, eqCons, eqCon, atB, e2]
    generalize decide (nm = nm') = b1
    generalize decide (a = a') = b2
    generalize decide (hs = hs') = b3
    generalize eqTy ty ty' = b4
    cases b1 <;> cases b2 <;> cases b3 <;> cases b4 <;> cases w <;> rfl

def RSameDec (w : Bool) (t : Dec) : Prop := ∀ u s, cw (.f F_ref05_sameDec) [t.enc, u.enc, .bool w] s = some (.ret (.val (.bool (eqDec w t u))), s)
def RSameDecs (w : Bool) (L : List Dec) : Prop := ∀ M v v' s, (Slot.val v).list? = some (L.map Dec.enc) → (Slot.val v').list? = some (M.map Dec.enc) → cw (.f F_ref05_SameAll) [v, v', .bool w] s = some (.ret (.val (.bool (eqDecs w L M))), s)
theorem rsameDecs_loop (w : Bool) (L M : List Dec) (x y : Slot) (hx : x.list? = some (L.map Dec.enc)) (hy : y.list? = some (M.map Dec.enc)) (hl : L.length < 2^40) (he : M.length = L.length) : ∀ (suf suf' pre pre' : List Dec) (s : St) (i : Nat), pre ++ suf = L → pre' ++ suf' = M → i = pre.length → pre'.length = pre.length → (∀ c ∈ suf, RSameDec w c) →
    ref05_SameAll_l0 x y (.val (.bool w)) (.val (.int .i64 i)) s = some (.ret (.val (.bool (eqDecs w suf suf'))), s)
  | [], suf', pre, pre', s, i, h, g, hi, hp, H => by
    subst hi
    obtain rfl := suf_nil h g hp he
    rw [ref05_SameAll_l0_eq]; simp only [go_sem, Nat.reduceAdd, Nat.reduceLeDiff, Nat.reduceSub, Nat.reduceMul, Nat.reduceEqDiff, Int.reduceEq, Int.reduceLT, Int.reduceLE, Int.reduceAdd, Int.reduceSub, Int.reduceNeg, Int.reduceGT, Int.reduceGE, Int.reduceNe, ne_eq, not_false_eq_true, hx, end_facts (by simpa using h), eqDecs]
  | d :: suf, suf', pre, pre', s, i, h, g, hi, hp, H => by
    subst hi
    obtain ⟨d', suf', rfl⟩ := suf_cons h g hp he
    obtain ⟨f1, f2, f3⟩ := step_facts hx h (by omega) (Dec.cells_len d) (by decide)
    obtain ⟨-, g2, -⟩ := step_facts hy g (by omega) (Dec.cells_len d') (by decide)
    rw [hp] at g2
    have e1 := H d (List.mem_cons_self) d'
    have ih := rsameDecs_loop w L M x y hx hy hl he suf suf' (pre ++ [d]) (pre' ++ [d']) s (pre.length + 1) (by simpa using h) (by simpa using g) (by simp) (by simp [hp]) (fun w hw => H w (List.mem_cons_of_mem _ hw))
    rw [ref05_SameAll_l0_eq]
    simp only [go_sem, Nat.reduceAdd, Nat.reduceLeDiff, Nat.reduceSub, Nat.reduceMul, Nat.reduceEqDiff, Int.reduceEq, Int.reduceLT, Int.reduceLE, Int.reduceAdd, Int.reduceSub, Int.reduceNeg, Int.reduceGT, Int.reduceGE, Int.reduceNe, ne_eq, not_false_eq_true, hx, f1, f2, f3, g2, e1, ih, eqDecs]
    cases eqDec w d d' <;> rfl
theorem rsameDecs_spec (w : Bool) (L : List Dec) (hl : L.length < 2^40) (H : ∀ c ∈ L, RSameDec w c) : RSameDecs w L := fun M v v' s hv hv' => by
  rw [ref05_SameAll_eq]; simp only [go_sem, Nat.reduceAdd, Nat.reduceLeDiff, Nat.reduceSub, Nat.reduceMul, Nat.reduceEqDiff, Int.reduceEq, Int.reduceLT, Int.reduceLE, Int.reduceAdd, Int.reduceSub, Int.reduceNeg, Int.reduceGT, Int.reduceGE, Int.reduceNe, ne_eq, not_false_eq_true, hv, hv', List.length_map]
  by_cases he : M.length = L.length
  · have h1 := rsameDecs_loop w L M (.val v) (.val v') hv hv' hl he L M [] [] s 0 rfl rfl rfl rfl H
    rw [show ((0 : Nat) : Int) = 0 from rfl] at h1
    simp only [go_sem, Nat.reduceAdd, Nat.reduceLeDiff, Nat.reduceSub, Nat.reduceMul, Nat.reduceEqDiff, Int.reduceEq, Int.reduceLT, Int.reduceLE, Int.reduceAdd, Int.reduceSub, Int.reduceNeg, Int.reduceGT, Int.reduceGE, Int.reduceNe, ne_eq, not_false_eq_true, decide_eq_true (show ((L.length : Int) = M.length) by omega), h1]
  · simp only [go_sem, Nat.reduceAdd, Nat.reduceLeDiff, Nat.reduceSub, Nat.reduceMul, Nat.reduceEqDiff, Int.reduceEq, Int.reduceLT, Int.reduceLE, Int.reduceAdd, Int.reduceSub, Int.reduceNeg, Int.reduceGT, Int.reduceGE, Int.reduceNe, ne_eq, not_false_eq_true, decide_eq_false (show ¬ ((L.length : Int) = M.length) by omega), eqDecs_len w L M (fun h => he h.symm)]

theorem rsame_all (w : Bool) : ∀ m : Nat, (∀ e : Exp, e.size ≤ m → e.size < 2^40 → RSameExp w e) ∧ (∀ l : List Case, Case.sizes l ≤ m → Case.sizes l < 2^40 → RSameCases w l) ∧ (∀ d : Dec, d.size ≤ m → d.size < 2^40 → RSameDec w d) := by
  intro m
  induction m with
  | zero =>
    refine ⟨fun e h _ => ?_, fun l h _ => ?_, fun d h _ => ?_⟩
    · obtain ⟨k, a, nm, n, l, lb, c, cb, d, db⟩ := e
      simp only [Exp.size] at h; omega
    · cases l with
      | cons c l => obtain ⟨p, e⟩ := c; simp only [Case.sizes, Case.size] at h; omega
      | nil => exact rsameCases_spec w [] (by decide) (by simp)
    · obtain ⟨k, a, nm, p, l, nb, c, cb, f, fb⟩ := d; simp only [Dec.size] at h; omega
  | succ m ih =>
    obtain ⟨ihE, ihC, ihD⟩ := ih
    refine ⟨fun e h h' u s => ?_, fun l h h' => ?_, fun d h h' u s => ?_⟩
    · obtain ⟨k, a, nm, n, l, lb, c, cb, d, db⟩ := e
      obtain ⟨k', a', nm', n', l', lb', c', cb', d', db'⟩ := u
      simp only [Exp.size] at h h'
      have h1 := Exp.len_sizes l
      have h3 := Dec.len_sizes d
      have e2 := fun s => ihC c (by omega) (by omega) c' (encS cb (c.map Case.enc)) (encS cb' (c'.map Case.enc)) s (by simp only [go_sem, Nat.reduceAdd, Nat.reduceLeDiff, Nat.reduceSub, Nat.reduceMul, Nat.reduceEqDiff, Int.reduceEq, Int.reduceLT, Int.reduceLE, Int.reduceAdd, Int.reduceSub, Int.reduceNeg, Int.reduceGT, Int.reduceGE, Int.reduceNe, ne_eq, not_false_eq_true]) (by simp only [go_sem, Nat.reduceAdd, Nat.reduceLeDiff, Nat.reduceSub, Nat.reduceMul, Nat.reduceEqDiff, Int.reduceEq, Int.reduceLT, Int.reduceLE, Int.reduceAdd, Int.reduceSub, Int.reduceNeg, Int.reduceGT, Int.reduceGE, Int.reduceNe, ne_eq, not_false_eq_true])
      have e3 := fun s => rsameDecs_spec w d (by omega) (fun t ht => by have := Dec.mem_sizes ht; exact ihD t (by omega) (by omega)) d' (encS db (d.map Dec.enc)) (encS db' (d'.map Dec.enc)) s (by simp only [go_sem, Nat.reduceAdd, Nat.reduceLeDiff, Nat.reduceSub, Nat.reduceMul, Nat.reduceEqDiff, Int.reduceEq, Int.reduceLT, Int.reduceLE, Int.reduceAdd, Int.reduceSub, Int.reduceNeg, Int.reduceGT, Int.reduceGE, Int.reduceNe, ne_eq, not_false_eq_true]) (by simp only [go_sem, Nat.reduceAdd, Nat.reduceLeDiff, Nat.reduceSub, Nat.reduceMul, Nat.reduceEqDiff, Int.reduceEq, Int.reduceLT, Int.reduceLE, Int.reduceAdd, Int.reduceSub, Int.reduceNeg, Int.reduceGT, Int.reduceGE, Int.reduceNe, ne_eq, not_false_eq_true])
      rw [ref05_SameExp_eq]
      by_cases he : l'.length = l.length
      · have e1 := rsameExps_loop w (.mk k a nm n l lb c cb d db) (.mk k' a' nm' n' l' lb' c' cb' d' db') (by simp only [Exp.kids]; omega) he l l' [] [] s 0 rfl rfl rfl rfl (fun t ht => by have := Exp.mem_sizes ht; exact ihE t (by omega) (by omega))
        simp only [go_sem, Nat.reduceAdd, Nat.reduceLeDiff, Nat.reduceSub, Nat.reduceMul, Nat.reduceEqDiff, Int.reduceEq, Int.reduceLT, Int.reduceLE, Int.reduceAdd, Int.reduceSub, Int.reduceNeg, Int.reduceGT, Int.reduceGE, Int.reduceNe, ne_eq, not_false_eq_true] at e1
        rw [show ((0 : Nat) : Int) = 0 from rfl] at e1
        simp only [go_sem, Nat.reduceAdd, Nat.reduceLeDiff, Nat.reduceSub, Nat.reduceMul, Nat.reduceEqDiff, Int.reduceEq, Int.reduceLT, Int.reduceLE, Int.reduceAdd, Int.reduceSub, Int.reduceNeg, Int.reduceGT, Int.reduceGE, Int.reduceNe, ne_eq, not_false_eq_true, Exp.enc, e1, e2, e3, eqExp, atB, decide_eq_true (show ((l.length : Int) = l'.length) by omega)]
        generalize decide (k = k') = b1
        generalize decide (n = n') = b2
        generalize decide (nm = nm') = b3
        generalize decide (a = a') = b4
        generalize eqCases w c c' = b5
        generalize eqDecs w d d' = b6
        generalize eqExps w l l' = b7
        cases b1 <;> cases b2 <;> cases b3 <;> cases b4 <;> cases b5 <;> cases b6 <;> cases b7 <;> cases w <;> rfl
      · simp only [go_sem, Nat.reduceAdd, Nat.reduceLeDiff, Nat.reduceSub, Nat.reduceMul, Nat.reduceEqDiff, Int.reduceEq, Int.reduceLT, Int.reduceLE, Int.reduceAdd, Int.reduceSub, Int.reduceNeg, Int.reduceGT, Int.reduceGE, Int.reduceNe, ne_eq, not_false_eq_true, Exp.enc, e2, e3, eqExp, atB, eqExps_len w l l' (fun h => he h.symm), decide_eq_false (show ¬ ((l.length : Int) = l'.length) by omega)]
    · have h1 := Case.len_sizes l
      refine rsameCases_spec w l (by omega) (fun c hc => ?_)
      have h2 := Case.mem_sizes hc
      obtain ⟨p, e⟩ := c
      simp only [Case.size, Case.pat, Case.exp] at h2 ⊢
      exact ⟨rsamePat_spec w p.size p (Nat.le_refl _) (by omega), ihE e (by omega) (by omega)⟩
    · obtain ⟨k, a, nm, p, l, nb, c, cb, f, fb⟩ := d
      obtain ⟨k', a', nm', p', l', nb', c', cb', f', fb'⟩ := u
      simp only [Dec.size] at h h'
      have h1 := Con.len_sizes l
      have h3 := Fun.len_sizes f
      have e2 := fun s => ihC c (by omega) (by omega) c' (encS cb (c.map Case.enc)) (encS cb' (c'.map Case.enc)) s (by simp only [go_sem, Nat.reduceAdd, Nat.reduceLeDiff, Nat.reduceSub, Nat.reduceMul, Nat.reduceEqDiff, Int.reduceEq, Int.reduceLT, Int.reduceLE, Int.reduceAdd, Int.reduceSub, Int.reduceNeg, Int.reduceGT, Int.reduceGE, Int.reduceNe, ne_eq, not_false_eq_true]) (by simp only [go_sem, Nat.reduceAdd, Nat.reduceLeDiff, Nat.reduceSub, Nat.reduceMul, Nat.reduceEqDiff, Int.reduceEq, Int.reduceLT, Int.reduceLE, Int.reduceAdd, Int.reduceSub, Int.reduceNeg, Int.reduceGT, Int.reduceGE, Int.reduceNe, ne_eq, not_false_eq_true])
      rw [ref05_sameDec_eq]
      by_cases hf : f'.length = f.length
      · have e1 := fun s => rsameDec_l1_loop w (.mk k a nm p l nb c cb f fb) (.mk k' a' nm' p' l' nb' c' cb' f' fb') (by simp only [Dec.funs]; omega) hf f f' [] [] s 0 rfl rfl rfl rfl (fun t ht => by
          have := Fun.mem_sizes ht
          obtain ⟨fn, fa, fc⟩ := t
          simp only [Fun.size, Fun.case] at this ⊢
          exact ihC [fc] (by simp only [Case.sizes]; omega) (by simp only [Case.sizes]; omega))
        by_cases he : l'.length = l.length
        · have e4 := rsameDec_l0_loop w (.mk k a nm p l nb c cb f fb) (.mk k' a' nm' p' l' nb' c' cb' f' fb') (by simp only [Dec.cons]; omega) he (by simp only [Dec.cons]; omega) (eqFuns w f f') e1 l l' [] [] s 0 rfl rfl rfl rfl (by omega)
          simp only [go_sem, Nat.reduceAdd, Nat.reduceLeDiff, Nat.reduceSub, Nat.reduceMul, Nat.reduceEqDiff, Int.reduceEq, Int.reduceLT, Int.reduceLE, Int.reduceAdd, Int.reduceSub, Int.reduceNeg, Int.reduceGT, Int.reduceGE, Int.reduceNe, ne_eq, not_false_eq_true] at e4
          rw [show ((0 : Nat) : Int) = 0 from rfl] at e4
          simp only [go_sem, Nat.reduceAdd, Nat.reduceLeDiff, Nat.reduceSub, Nat.reduceMul, Nat.reduceEqDiff, Int.reduceEq, Int.reduceLT, Int.reduceLE, Int.reduceAdd, Int.reduceSub, Int.reduceNeg, Int.reduceGT, Int.reduceGE, Int.reduceNe, ne_eq, not_false_eq_true, Dec.enc, e2, e4, eqDec, atB, decide_eq_true (show ((l.length : Int) = l'.length) by omega), decide_eq_true (show ((f.length : Int) = f'.length) by omega)]
          generalize decide (k = k') = b1
          generalize decide (p = p') = b2
          generalize decide (nm = nm') = b3
          generalize decide (a = a') = b4
          generalize eqCases w c c' = b5
          generalize eqFuns w f f' = b6
          generalize eqCons w l l' = b7
          cases b1 <;> cases b2 <;> cases b3 <;> cases b4 <;> cases b5 <;> cases b6 <;> cases b7 <;> cases w <;> rfl
        · simp only [go_sem, Nat.reduceAdd, Nat.reduceLeDiff, Nat.reduceSub, Nat.reduceMul, Nat.reduceEqDiff, Int.reduceEq, Int.reduceLT, Int.reduceLE, Int.reduceAdd, Int.reduceSub, Int.reduceNeg, Int.reduceGT, Int.reduceGE, Int.reduceNe, ne_eq, not_false_eq_true, Dec.enc, e2, eqDec, atB, eqCons_len w l l' (fun h => he h.symm), decide_eq_false (show ¬ ((l.length : Int) = l'.length) by omega), decide_eq_true (show ((f.length : Int) = f'.length) by omega)]
      · simp only [go_sem, Nat.reduceAdd, Nat.reduceLeDiff, Nat.reduceSub, Nat.reduceMul, Nat.reduceEqDiff, Int.reduceEq, Int.reduceLT, Int.reduceLE, Int.reduceAdd, Int.reduceSub, Int.reduceNeg, Int.reduceGT, Int.reduceGE, Int.reduceNe, ne_eq, not_false_eq_true, Dec.enc, e2, eqDec, atB, eqFuns_len w f f' (fun h => hf h.symm), decide_eq_false (show ¬ ((f.length : Int) = f'.length) by omega)]

theorem ref05_SameAll_spec (w : Bool) (L M : List Dec) (v v' : AV) (hv : (Slot.val v).list? = some (L.map Dec.enc)) (hv' : (Slot.val v').list? = some (M.map Dec.enc)) (s : St) (h : Dec.sizes L < 2^40) : cw (.f F_ref05_SameAll) [v, v', .bool w] s = some (.ret (.val (.bool (eqDecs w L M))), s) := by
  have hl := Dec.len_sizes L
  exact rsameDecs_spec w L (by omega) (fun t ht => by have := Dec.mem_sizes ht; exact (rsame_all w t.size).2.2 t (Nat.le_refl _) (by omega)) M v v' s hv hv'

theorem ref05_Same_spec (L M : List Dec) (b c : Bool) (s : St) (h : Dec.sizes L < 2^40) : cw (.f F_ref05_Same) [encS b (L.map Dec.enc), encS c (M.map Dec.enc)] s = some (.ret (.val (.bool (eqDecs false L M))), s) := by
  have e1 := ref05_SameAll_spec false L M (encS b (L.map Dec.enc)) (encS c (M.map Dec.enc)) (by simp only [go_sem, Nat.reduceAdd, Nat.reduceLeDiff, Nat.reduceSub, Nat.reduceMul, Nat.reduceEqDiff, Int.reduceEq, Int.reduceLT, Int.reduceLE, Int.reduceAdd, Int.reduceSub, Int.reduceNeg, Int.reduceGT, Int.reduceGE, Int.reduceNe, ne_eq, not_false_eq_true]) (by simp only [go_sem, Nat.reduceAdd, Nat.reduceLeDiff, Nat.reduceSub, Nat.reduceMul, Nat.reduceEqDiff, Int.reduceEq, Int.reduceLT, Int.reduceLE, Int.reduceAdd, Int.reduceSub, Int.reduceNeg, Int.reduceGT, Int.reduceGE, Int.reduceNe, ne_eq, not_false_eq_true]) s h
  rw [ref05_Same_eq]; simp only [go_sem, Nat.reduceAdd, Nat.reduceLeDiff, Nat.reduceSub, Nat.reduceMul, Nat.reduceEqDiff, Int.reduceEq, Int.reduceLT, Int.reduceLE, Int.reduceAdd, Int.reduceSub, Int.reduceNeg, Int.reduceGT, Int.reduceGE, Int.reduceNe, ne_eq, not_false_eq_true, e1]

end Go.Proofs.Ytemfpnlpnmglfaa
