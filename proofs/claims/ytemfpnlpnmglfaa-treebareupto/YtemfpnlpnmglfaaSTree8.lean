/- The tree layer: are two trees the same? -/
import Derived.Test.YtemfpnlpnmglfaaPSame
import Derived.Test.YtemfpnlpnmglfaaG
set_option linter.unusedVariables false
set_option linter.unusedSimpArgs false
namespace Go.Proofs.Ytemfpnlpnmglfaa
open Go Go.Am
set_option maxRecDepth 4000

def SameTyOK (t : Ty) : Prop := ∀ u s, cw (.f F_tree_sameTy) [t.enc, u.enc] s = some (.ret (.val (.bool (eqTy t u))), s)
theorem sameTys_loop (L M : List Ty) (x y : Slot) (hx : x.list? = some (L.map Ty.enc)) (hy : y.list? = some (M.map Ty.enc)) (hl : L.length < 2^40) (he : M.length = L.length) : ∀ (suf suf' pre pre' : List Ty) (s : St) (i : Nat), pre ++ suf = L → pre' ++ suf' = M → i = pre.length → pre'.length = pre.length → (∀ t ∈ suf, SameTyOK t) →
    slices_EqualFunc_STy_STy_Ty_Ty_l0 y (.val (.fn F_tree_sameTy [])) x (.val (.int .i64 L.length)) (.val (.int .i64 i)) s = some (.ret (.val (.bool (eqTys suf suf'))), s)
  | [], suf', pre, pre', s, i, h, g, hi, hp, H => by
    subst hi
    have : suf' = [] := by
      have h1 := congrArg List.length h
      have h2 := congrArg List.length g
      simp only [List.length_append, List.length_nil] at h1 h2
      exact List.eq_nil_of_length_eq_zero (by omega)
    subst this
    rw [slices_EqualFunc_STy_STy_Ty_Ty_l0_eq]; simp only [go_sem, Nat.reduceAdd, Nat.reduceLeDiff, Nat.reduceSub, Nat.reduceMul, Nat.reduceEqDiff, Int.reduceEq, Int.reduceLT, Int.reduceLE, Int.reduceAdd, Int.reduceSub, Int.reduceNeg, Int.reduceGT, Int.reduceGE, Int.reduceNe, ne_eq, not_false_eq_true, end_facts (by simpa using h), eqTys]
  | t :: suf, suf', pre, pre', s, i, h, g, hi, hp, H => by
    subst hi
    cases suf' with
    | nil =>
      have h1 := congrArg List.length h
      have h2 := congrArg List.length g
      simp only [List.length_append, List.length_nil, List.length_cons] at h1 h2
      omega
    | cons u suf' =>
      obtain ⟨f1, f2, f3⟩ := step_facts hx h (by omega) (Ty.cells_len t) (by decide)
      obtain ⟨-, g2, -⟩ := step_facts hy g (by omega) (Ty.cells_len u) (by decide)
      rw [hp] at g2
      have e1 := H t (List.mem_cons_self) u s
      have ih := sameTys_loop L M x y hx hy hl he suf suf' (pre ++ [t]) (pre' ++ [u]) s (pre.length + 1) (by simpa using h) (by simpa using g) (by simp) (by simp [hp]) (fun w hw => H w (List.mem_cons_of_mem _ hw))
      rw [slices_EqualFunc_STy_STy_Ty_Ty_l0_eq]; simp only [go_sem, Nat.reduceAdd, Nat.reduceLeDiff, Nat.reduceSub, Nat.reduceMul, Nat.reduceEqDiff, Int.reduceEq, Int.reduceLT, Int.reduceLE, Int.reduceAdd, Int.reduceSub, Int.reduceNeg, Int.reduceGT, Int.reduceGE, Int.reduceNe, ne_eq, not_false_eq_true, f1, f2, f3, g2, e1, ih, eqTys]
      cases eqTy t u <;> rfl
theorem sameTys_spec (L M : List Ty) (v w : AV) (hv : (Slot.val v).list? = some (L.map Ty.enc)) (hw : (Slot.val w).list? = some (M.map Ty.enc)) (hl : L.length < 2^40) (H : ∀ t ∈ L, SameTyOK t) (s : St) : cw (.f F_slices_EqualFunc_STy_STy_Ty_Ty) [v, w, .fn F_tree_sameTy []] s = some (.ret (.val (.bool (eqTys L M))), s) := by
  rw [slices_EqualFunc_STy_STy_Ty_Ty_eq]; simp only [go_sem, Nat.reduceAdd, Nat.reduceLeDiff, Nat.reduceSub, Nat.reduceMul, Nat.reduceEqDiff, Int.reduceEq, Int.reduceLT, Int.reduceLE, Int.reduceAdd, Int.reduceSub, Int.reduceNeg, Int.reduceGT, Int.reduceGE, Int.reduceNe, ne_eq, not_false_eq_true, hv, hw, List.length_map]
  by_cases he : M.length = L.length
  · have h1 := sameTys_loop L M (.val v) (.val w) hv hw hl he L M [] [] s 0 rfl rfl rfl rfl H
    rw [show ((0 : Nat) : Int) = 0 from rfl] at h1
    simp only [go_sem, Nat.reduceAdd, Nat.reduceLeDiff, Nat.reduceSub, Nat.reduceMul, Nat.reduceEqDiff, Int.reduceEq, Int.reduceLT, Int.reduceLE, Int.reduceAdd, Int.reduceSub, Int.reduceNeg, Int.reduceGT, Int.reduceGE, Int.reduceNe, ne_eq, not_false_eq_true, decide_eq_true (show ((L.length : Int) = M.length) by omega), h1]
  · simp only [go_sem, Nat.reduceAdd, Nat.reduceLeDiff, Nat.reduceSub, Nat.reduceMul, Nat.reduceEqDiff, Int.reduceEq, Int.reduceLT, Int.reduceLE, Int.reduceAdd, Int.reduceSub, Int.reduceNeg, Int.reduceGT, Int.reduceGE, Int.reduceNe, ne_eq, not_false_eq_true, decide_eq_false (show ¬ ((L.length : Int) = M.length) by omega), eqTys_len L M (fun h => he h.symm)]

def SamePatOK (t : Pat) : Prop := ∀ u s, cw (.f F_tree_samePat) [t.enc, u.enc] s = some (.ret (.val (.bool (eqPat false t u))), s)
theorem samePats_loop (L M : List Pat) (x y : Slot) (hx : x.list? = some (L.map Pat.enc)) (hy : y.list? = some (M.map Pat.enc)) (hl : L.length < 2^40) (he : M.length = L.length) : ∀ (suf suf' pre pre' : List Pat) (s : St) (i : Nat), pre ++ suf = L → pre' ++ suf' = M → i = pre.length → pre'.length = pre.length → (∀ t ∈ suf, SamePatOK t) →
    slices_EqualFunc_SPat_SPat_Pat_Pat_l0 y (.val (.fn F_tree_samePat [])) x (.val (.int .i64 L.length)) (.val (.int .i64 i)) s = some (.ret (.val (.bool (eqPats false suf suf'))), s)
  | [], suf', pre, pre', s, i, h, g, hi, hp, H => by
    subst hi
    have : suf' = [] := by
      have h1 := congrArg List.length h
      have h2 := congrArg List.length g
      simp only [List.length_append, List.length_nil] at h1 h2
      exact List.eq_nil_of_length_eq_zero (by omega)
    subst this
    rw [slices_EqualFunc_SPat_SPat_Pat_Pat_l0_eq]; simp only [go_sem, Nat.reduceAdd, Nat.reduceLeDiff, Nat.reduceSub, Nat.reduceMul, Nat.reduceEqDiff, Int.reduceEq, Int.reduceLT, Int.reduceLE, Int.reduceAdd, Int.reduceSub, Int.reduceNeg, Int.reduceGT, Int.reduceGE, Int.reduceNe, ne_eq, not_false_eq_true, end_facts (by simpa using h), eqPats]
  | t :: suf, suf', pre, pre', s, i, h, g, hi, hp, H => by
    subst hi
    cases suf' with
    | nil =>
      have h1 := congrArg List.length h
      have h2 := congrArg List.length g
      simp only [List.length_append, List.length_nil, List.length_cons] at h1 h2
      omega
    | cons u suf' =>
      obtain ⟨f1, f2, f3⟩ := step_facts hx h (by omega) (Pat.cells_len t) (by decide)
      obtain ⟨-, g2, -⟩ := step_facts hy g (by omega) (Pat.cells_len u) (by decide)
      rw [hp] at g2
      have e1 := H t (List.mem_cons_self) u s
      have ih := samePats_loop L M x y hx hy hl he suf suf' (pre ++ [t]) (pre' ++ [u]) s (pre.length + 1) (by simpa using h) (by simpa using g) (by simp) (by simp [hp]) (fun w hw => H w (List.mem_cons_of_mem _ hw))
      rw [slices_EqualFunc_SPat_SPat_Pat_Pat_l0_eq]; simp only [go_sem, Nat.reduceAdd, Nat.reduceLeDiff, Nat.reduceSub, Nat.reduceMul, Nat.reduceEqDiff, Int.reduceEq, Int.reduceLT, Int.reduceLE, Int.reduceAdd, Int.reduceSub, Int.reduceNeg, Int.reduceGT, Int.reduceGE, Int.reduceNe, ne_eq, not_false_eq_true, f1, f2, f3, g2, e1, ih, eqPats]
      cases eqPat false t u <;> rfl
theorem samePats_spec (L M : List Pat) (v w : AV) (hv : (Slot.val v).list? = some (L.map Pat.enc)) (hw : (Slot.val w).list? = some (M.map Pat.enc)) (hl : L.length < 2^40) (H : ∀ t ∈ L, SamePatOK t) (s : St) : cw (.f F_slices_EqualFunc_SPat_SPat_Pat_Pat) [v, w, .fn F_tree_samePat []] s = some (.ret (.val (.bool (eqPats false L M))), s) := by
  rw [slices_EqualFunc_SPat_SPat_Pat_Pat_eq]; simp only [go_sem, Nat.reduceAdd, Nat.reduceLeDiff, Nat.reduceSub, Nat.reduceMul, Nat.reduceEqDiff, Int.reduceEq, Int.reduceLT, Int.reduceLE, Int.reduceAdd, Int.reduceSub, Int.reduceNeg, Int.reduceGT, Int.reduceGE, Int.reduceNe, ne_eq, not_false_eq_true, hv, hw, List.length_map]
  by_cases he : M.length = L.length
  · have h1 := samePats_loop L M (.val v) (.val w) hv hw hl he L M [] [] s 0 rfl rfl rfl rfl H
    rw [show ((0 : Nat) : Int) = 0 from rfl] at h1
    simp only [go_sem, Nat.reduceAdd, Nat.reduceLeDiff, Nat.reduceSub, Nat.reduceMul, Nat.reduceEqDiff, Int.reduceEq, Int.reduceLT, Int.reduceLE, Int.reduceAdd, Int.reduceSub, Int.reduceNeg, Int.reduceGT, Int.reduceGE, Int.reduceNe, ne_eq, not_false_eq_true, decide_eq_true (show ((L.length : Int) = M.length) by omega), h1]
  · simp only [go_sem, Nat.reduceAdd, Nat.reduceLeDiff, Nat.reduceSub, Nat.reduceMul, Nat.reduceEqDiff, Int.reduceEq, Int.reduceLT, Int.reduceLE, Int.reduceAdd, Int.reduceSub, Int.reduceNeg, Int.reduceGT, Int.reduceGE, Int.reduceNe, ne_eq, not_false_eq_true, decide_eq_false (show ¬ ((L.length : Int) = M.length) by omega), eqPats_len false L M (fun h => he h.symm)]

def SameConOK (t : Con) : Prop := ∀ u s, cw (.f F_tree_sameCon) [t.enc, u.enc] s = some (.ret (.val (.bool (eqCon false t u))), s)
theorem sameCons_loop (L M : List Con) (x y : Slot) (hx : x.list? = some (L.map Con.enc)) (hy : y.list? = some (M.map Con.enc)) (hl : L.length < 2^40) (he : M.length = L.length) : ∀ (suf suf' pre pre' : List Con) (s : St) (i : Nat), pre ++ suf = L → pre' ++ suf' = M → i = pre.length → pre'.length = pre.length → (∀ t ∈ suf, SameConOK t) →
    slices_EqualFunc_SCon_SCon_Con_Con_l0 y (.val (.fn F_tree_sameCon [])) x (.val (.int .i64 L.length)) (.val (.int .i64 i)) s = some (.ret (.val (.bool (eqCons false suf suf'))), s)
  | [], suf', pre, pre', s, i, h, g, hi, hp, H => by
    subst hi
    have : suf' = [] := by
      have h1 := congrArg List.length h
      have h2 := congrArg List.length g
      simp only [List.length_append, List.length_nil] at h1 h2
      exact List.eq_nil_of_length_eq_zero (by omega)
    subst this
    rw [slices_EqualFunc_SCon_SCon_Con_Con_l0_eq]; simp only [go_sem, Nat.reduceAdd, Nat.reduceLeDiff, Nat.reduceSub, Nat.reduceMul, Nat.reduceEqDiff, Int.reduceEq, Int.reduceLT, Int.reduceLE, Int.reduceAdd, Int.reduceSub, Int.reduceNeg, Int.reduceGT, Int.reduceGE, Int.reduceNe, ne_eq, not_false_eq_true, end_facts (by simpa using h), eqCons]
  | t :: suf, suf', pre, pre', s, i, h, g, hi, hp, H => by
    subst hi
    cases suf' with
    | nil =>
      have h1 := congrArg List.length h
      have h2 := congrArg List.length g
      simp only [List.length_append, List.length_nil, List.length_cons] at h1 h2
      omega
    | cons u suf' =>
      obtain ⟨f1, f2, f3⟩ := step_facts hx h (by omega) (Con.cells_len t) (by decide)
      obtain ⟨-, g2, -⟩ := step_facts hy g (by omega) (Con.cells_len u) (by decide)
      rw [hp] at g2
      have e1 := H t (List.mem_cons_self) u s
      have ih := sameCons_loop L M x y hx hy hl he suf suf' (pre ++ [t]) (pre' ++ [u]) s (pre.length + 1) (by simpa using h) (by simpa using g) (by simp) (by simp [hp]) (fun w hw => H w (List.mem_cons_of_mem _ hw))
      rw [slices_EqualFunc_SCon_SCon_Con_Con_l0_eq]; simp only [go_sem, Nat.reduceAdd, Nat.reduceLeDiff, Nat.reduceSub, Nat.reduceMul, Nat.reduceEqDiff, Int.reduceEq, Int.reduceLT, Int.reduceLE, Int.reduceAdd, Int.reduceSub, Int.reduceNeg, Int.reduceGT, Int.reduceGE, Int.reduceNe, ne_eq, not_false_eq_true, f1, f2, f3, g2, e1, ih, eqCons]
      cases eqCon false t u <;> rfl
theorem sameCons_spec (L M : List Con) (v w : AV) (hv : (Slot.val v).list? = some (L.map Con.enc)) (hw : (Slot.val w).list? = some (M.map Con.enc)) (hl : L.length < 2^40) (H : ∀ t ∈ L, SameConOK t) (s : St) : cw (.f F_slices_EqualFunc_SCon_SCon_Con_Con) [v, w, .fn F_tree_sameCon []] s = some (.ret (.val (.bool (eqCons false L M))), s) := by
  rw [slices_EqualFunc_SCon_SCon_Con_Con_eq]; simp only [go_sem, Nat.reduceAdd, Nat.reduceLeDiff, Nat.reduceSub, Nat.reduceMul, Nat.reduceEqDiff, Int.reduceEq, Int.reduceLT, Int.reduceLE, Int.reduceAdd, Int.reduceSub, Int.reduceNeg, Int.reduceGT, Int.reduceGE, Int.reduceNe, ne_eq, not_false_eq_true, hv, hw, List.length_map]
  by_cases he : M.length = L.length
  · have h1 := sameCons_loop L M (.val v) (.val w) hv hw hl he L M [] [] s 0 rfl rfl rfl rfl H
    rw [show ((0 : Nat) : Int) = 0 from rfl] at h1
    simp only [go_sem, Nat.reduceAdd, Nat.reduceLeDiff, Nat.reduceSub, Nat.reduceMul, Nat.reduceEqDiff, Int.reduceEq, Int.reduceLT, Int.reduceLE, Int.reduceAdd, Int.reduceSub, Int.reduceNeg, Int.reduceGT, Int.reduceGE, Int.reduceNe, ne_eq, not_false_eq_true, decide_eq_true (show ((L.length : Int) = M.length) by omega), h1]
  · simp only [go_sem, Nat.reduceAdd, Nat.reduceLeDiff, Nat.reduceSub, Nat.reduceMul, Nat.reduceEqDiff, Int.reduceEq, Int.reduceLT, Int.reduceLE, Int.reduceAdd, Int.reduceSub, Int.reduceNeg, Int.reduceGT, Int.reduceGE, Int.reduceNe, ne_eq, not_false_eq_true, decide_eq_false (show ¬ ((L.length : Int) = M.length) by omega), eqCons_len false L M (fun h => he h.symm)]

def SameExpOK (t : Exp) : Prop := ∀ u s, cw (.f F_tree_sameExp) [t.enc, u.enc] s = some (.ret (.val (.bool (eqExp false t u))), s)
theorem sameExps_loop (L M : List Exp) (x y : Slot) (hx : x.list? = some (L.map Exp.enc)) (hy : y.list? = some (M.map Exp.enc)) (hl : L.length < 2^40) (he : M.length = L.length) : ∀ (suf suf' pre pre' : List Exp) (s : St) (i : Nat), pre ++ suf = L → pre' ++ suf' = M → i = pre.length → pre'.length = pre.length → (∀ t ∈ suf, SameExpOK t) →
    slices_EqualFunc_SExp_SExp_Exp_Exp_l0 y (.val (.fn F_tree_sameExp [])) x (.val (.int .i64 L.length)) (.val (.int .i64 i)) s = some (.ret (.val (.bool (eqExps false suf suf'))), s)
  | [], suf', pre, pre', s, i, h, g, hi, hp, H => by
    subst hi
    have : suf' = [] := by
      have h1 := congrArg List.length h
      have h2 := congrArg List.length g
      simp only [List.length_append, List.length_nil] at h1 h2
      exact List.eq_nil_of_length_eq_zero (by omega)
    subst this
    rw [slices_EqualFunc_SExp_SExp_Exp_Exp_l0_eq]; simp only [go_sem, Nat.reduceAdd, Nat.reduceLeDiff, Nat.reduceSub, Nat.reduceMul, Nat.reduceEqDiff, Int.reduceEq, Int.reduceLT, Int.reduceLE, Int.reduceAdd, Int.reduceSub, Int.reduceNeg, Int.reduceGT, Int.reduceGE, Int.reduceNe, ne_eq, not_false_eq_true, end_facts (by simpa using h), eqExps]
  | t :: suf, suf', pre, pre', s, i, h, g, hi, hp, H => by
    subst hi
    cases suf' with
    | nil =>
      have h1 := congrArg List.length h
      have h2 := congrArg List.length g
      simp only [List.length_append, List.length_nil, List.length_cons] at h1 h2
      omega
    | cons u suf' =>
      obtain ⟨f1, f2, f3⟩ := step_facts hx h (by omega) (Exp.cells_len t) (by decide)
      obtain ⟨-, g2, -⟩ := step_facts hy g (by omega) (Exp.cells_len u) (by decide)
      rw [hp] at g2
      have e1 := H t (List.mem_cons_self) u s
      have ih := sameExps_loop L M x y hx hy hl he suf suf' (pre ++ [t]) (pre' ++ [u]) s (pre.length + 1) (by simpa using h) (by simpa using g) (by simp) (by simp [hp]) (fun w hw => H w (List.mem_cons_of_mem _ hw))
      rw [slices_EqualFunc_SExp_SExp_Exp_Exp_l0_eq]; simp only [go_sem, Nat.reduceAdd, Nat.reduceLeDiff, Nat.reduceSub, Nat.reduceMul, Nat.reduceEqDiff, Int.reduceEq, Int.reduceLT, Int.reduceLE, Int.reduceAdd, Int.reduceSub, Int.reduceNeg, Int.reduceGT, Int.reduceGE, Int.reduceNe, ne_eq, not_false_eq_true, f1, f2, f3, g2, e1, ih, eqExps]
      cases eqExp false t u <;> rfl
theorem sameExps_spec (L M : List Exp) (v w : AV) (hv : (Slot.val v).list? = some (L.map Exp.enc)) (hw : (Slot.val w).list? = some (M.map Exp.enc)) (hl : L.length < 2^40) (H : ∀ t ∈ L, SameExpOK t) (s : St) : cw (.f F_slices_EqualFunc_SExp_SExp_Exp_Exp) [v, w, .fn F_tree_sameExp []] s = some (.ret (.val (.bool (eqExps false L M))), s) := by
  rw [slices_EqualFunc_SExp_SExp_Exp_Exp_eq]; simp only [go_sem, Nat.reduceAdd, Nat.reduceLeDiff, Nat.reduceSub, Nat.reduceMul, Nat.reduceEqDiff, Int.reduceEq, Int.reduceLT, Int.reduceLE, Int.reduceAdd, Int.reduceSub, Int.reduceNeg, Int.reduceGT, Int.reduceGE, Int.reduceNe, ne_eq, not_false_eq_true, hv, hw, List.length_map]
  by_cases he : M.length = L.length
  · have h1 := sameExps_loop L M (.val v) (.val w) hv hw hl he L M [] [] s 0 rfl rfl rfl rfl H
    rw [show ((0 : Nat) : Int) = 0 from rfl] at h1
    simp only [go_sem, Nat.reduceAdd, Nat.reduceLeDiff, Nat.reduceSub, Nat.reduceMul, Nat.reduceEqDiff, Int.reduceEq, Int.reduceLT, Int.reduceLE, Int.reduceAdd, Int.reduceSub, Int.reduceNeg, Int.reduceGT, Int.reduceGE, Int.reduceNe, ne_eq, not_false_eq_true, decide_eq_true (show ((L.length : Int) = M.length) by omega), h1]
  · simp only [go_sem, Nat.reduceAdd, Nat.reduceLeDiff, Nat.reduceSub, Nat.reduceMul, Nat.reduceEqDiff, Int.reduceEq, Int.reduceLT, Int.reduceLE, Int.reduceAdd, Int.reduceSub, Int.reduceNeg, Int.reduceGT, Int.reduceGE, Int.reduceNe, ne_eq, not_false_eq_true, decide_eq_false (show ¬ ((L.length : Int) = M.length) by omega), eqExps_len false L M (fun h => he h.symm)]

def SameCaseOK (t : Case) : Prop := ∀ u s, cw (.f F_tree_sameCase) [t.enc, u.enc] s = some (.ret (.val (.bool (eqCase false t u))), s)
theorem sameCases_loop (L M : List Case) (x y : Slot) (hx : x.list? = some (L.map Case.enc)) (hy : y.list? = some (M.map Case.enc)) (hl : L.length < 2^40) (he : M.length = L.length) : ∀ (suf suf' pre pre' : List Case) (s : St) (i : Nat), pre ++ suf = L → pre' ++ suf' = M → i = pre.length → pre'.length = pre.length → (∀ t ∈ suf, SameCaseOK t) →
    slices_EqualFunc_SCase_SCase_Case_Case_l0 y (.val (.fn F_tree_sameCase [])) x (.val (.int .i64 L.length)) (.val (.int .i64 i)) s = some (.ret (.val (.bool (eqCases false suf suf'))), s)
  | [], suf', pre, pre', s, i, h, g, hi, hp, H => by
    subst hi
    have : suf' = [] := by
      have h1 := congrArg List.length h
      have h2 := congrArg List.length g
      simp only [List.length_append, List.length_nil] at h1 h2
      exact List.eq_nil_of_length_eq_zero (by omega)
    subst this
    rw [slices_EqualFunc_SCase_SCase_Case_Case_l0_eq]; simp only [go_sem, Nat.reduceAdd, Nat.reduceLeDiff, Nat.reduceSub, Nat.reduceMul, Nat.reduceEqDiff, Int.reduceEq, Int.reduceLT, Int.reduceLE, Int.reduceAdd, Int.reduceSub, Int.reduceNeg, Int.reduceGT, Int.reduceGE, Int.reduceNe, ne_eq, not_false_eq_true, end_facts (by simpa using h), eqCases]
  | t :: suf, suf', pre, pre', s, i, h, g, hi, hp, H => by
    subst hi
    cases suf' with
    | nil =>
      have h1 := congrArg List.length h
      have h2 := congrArg List.length g
      simp only [List.length_append, List.length_nil, List.length_cons] at h1 h2
      omega
    | cons u suf' =>
      obtain ⟨f1, f2, f3⟩ := step_facts hx h (by omega) (Case.cells_len t) (by decide)
      obtain ⟨-, g2, -⟩ := step_facts hy g (by omega) (Case.cells_len u) (by decide)
      rw [hp] at g2
      have e1 := H t (List.mem_cons_self) u s
      have ih := sameCases_loop L M x y hx hy hl he suf suf' (pre ++ [t]) (pre' ++ [u]) s (pre.length + 1) (by simpa using h) (by simpa using g) (by simp) (by simp [hp]) (fun w hw => H w (List.mem_cons_of_mem _ hw))
      rw [slices_EqualFunc_SCase_SCase_Case_Case_l0_eq]; simp only [go_sem, Nat.reduceAdd, Nat.reduceLeDiff, Nat.reduceSub, Nat.reduceMul, Nat.reduceEqDiff, Int.reduceEq, Int.reduceLT, Int.reduceLE, Int.reduceAdd, Int.reduceSub, Int.reduceNeg, Int.reduceGT, Int.reduceGE, Int.reduceNe, ne_eq, not_false_eq_true, f1, f2, f3, g2, e1, ih, eqCases]
      cases eqCase false t u <;> rfl
theorem sameCases_spec (L M : List Case) (v w : AV) (hv : (Slot.val v).list? = some (L.map Case.enc)) (hw : (Slot.val w).list? = some (M.map Case.enc)) (hl : L.length < 2^40) (H : ∀ t ∈ L, SameCaseOK t) (s : St) : cw (.f F_slices_EqualFunc_SCase_SCase_Case_Case) [v, w, .fn F_tree_sameCase []] s = some (.ret (.val (.bool (eqCases false L M))), s) := by
  rw [slices_EqualFunc_SCase_SCase_Case_Case_eq]; simp only [go_sem, Nat.reduceAdd, Nat.reduceLeDiff, Nat.reduceSub, Nat.reduceMul, Nat.reduceEqDiff, Int.reduceEq, Int.reduceLT, Int.reduceLE, Int.reduceAdd, Int.reduceSub, Int.reduceNeg, Int.reduceGT, Int.reduceGE, Int.reduceNe, ne_eq, not_false_eq_true, hv, hw, List.length_map]
  by_cases he : M.length = L.length
  · have h1 := sameCases_loop L M (.val v) (.val w) hv hw hl he L M [] [] s 0 rfl rfl rfl rfl H
    rw [show ((0 : Nat) : Int) = 0 from rfl] at h1
    simp only [go_sem, Nat.reduceAdd, Nat.reduceLeDiff, Nat.reduceSub, Nat.reduceMul, Nat.reduceEqDiff, Int.reduceEq, Int.reduceLT, Int.reduceLE, Int.reduceAdd, Int.reduceSub, Int.reduceNeg, Int.reduceGT, Int.reduceGE, Int.reduceNe, ne_eq, not_false_eq_true, decide_eq_true (show ((L.length : Int) = M.length) by omega), h1]
  · simp only [go_sem, Nat.reduceAdd, Nat.reduceLeDiff, Nat.reduceSub, Nat.reduceMul, Nat.reduceEqDiff, Int.reduceEq, Int.reduceLT, Int.reduceLE, Int.reduceAdd, Int.reduceSub, Int.reduceNeg, Int.reduceGT, Int.reduceGE, Int.reduceNe, ne_eq, not_false_eq_true, decide_eq_false (show ¬ ((L.length : Int) = M.length) by omega), eqCases_len false L M (fun h => he h.symm)]

def SameDecOK (t : Dec) : Prop := ∀ u s, cw (.f F_tree_sameDec) [t.enc, u.enc] s = some (.ret (.val (.bool (eqDec false t u))), s)
theorem sameDecs_loop (L M : List Dec) (x y : Slot) (hx : x.list? = some (L.map Dec.enc)) (hy : y.list? = some (M.map Dec.enc)) (hl : L.length < 2^40) (he : M.length = L.length) : ∀ (suf suf' pre pre' : List Dec) (s : St) (i : Nat), pre ++ suf = L → pre' ++ suf' = M → i = pre.length → pre'.length = pre.length → (∀ t ∈ suf, SameDecOK t) →
    slices_EqualFunc_SDec_SDec_Dec_Dec_l0 y (.val (.fn F_tree_sameDec [])) x (.val (.int .i64 L.length)) (.val (.int .i64 i)) s = some (.ret (.val (.bool (eqDecs false suf suf'))), s)
  | [], suf', pre, pre', s, i, h, g, hi, hp, H => by
    subst hi
    have : suf' = [] := by
      have h1 := congrArg List.length h
      have h2 := congrArg List.length g
      simp only [List.length_append, List.length_nil] at h1 h2
      exact List.eq_nil_of_length_eq_zero (by omega)
    subst this
    rw [slices_EqualFunc_SDec_SDec_Dec_Dec_l0_eq]; simp only [go_sem, Nat.reduceAdd, Nat.reduceLeDiff, Nat.reduceSub, Nat.reduceMul, Nat.reduceEqDiff, Int.reduceEq, Int.reduceLT, Int.reduceLE, Int.reduceAdd, Int.reduceSub, Int.reduceNeg, Int.reduceGT, Int.reduceGE, Int.reduceNe, ne_eq, not_false_eq_true, end_facts (by simpa using h), eqDecs]
  | t :: suf, suf', pre, pre', s, i, h, g, hi, hp, H => by
    subst hi
    cases suf' with
    | nil =>
      have h1 := congrArg List.length h
      have h2 := congrArg List.length g
      simp only [List.length_append, List.length_nil, List.length_cons] at h1 h2
      omega
    | cons u suf' =>
      obtain ⟨f1, f2, f3⟩ := step_facts hx h (by omega) (Dec.cells_len t) (by decide)
      obtain ⟨-, g2, -⟩ := step_facts hy g (by omega) (Dec.cells_len u) (by decide)
      rw [hp] at g2
      have e1 := H t (List.mem_cons_self) u s
      have ih := sameDecs_loop L M x y hx hy hl he suf suf' (pre ++ [t]) (pre' ++ [u]) s (pre.length + 1) (by simpa using h) (by simpa using g) (by simp) (by simp [hp]) (fun w hw => H w (List.mem_cons_of_mem _ hw))
      rw [slices_EqualFunc_SDec_SDec_Dec_Dec_l0_eq]; simp only [go_sem, Nat.reduceAdd, Nat.reduceLeDiff, Nat.reduceSub, Nat.reduceMul, Nat.reduceEqDiff, Int.reduceEq, Int.reduceLT, Int.reduceLE, Int.reduceAdd, Int.reduceSub, Int.reduceNeg, Int.reduceGT, Int.reduceGE, Int.reduceNe, ne_eq, not_false_eq_true, f1, f2, f3, g2, e1, ih, eqDecs]
      cases eqDec false t u <;> rfl
theorem sameDecs_spec (L M : List Dec) (v w : AV) (hv : (Slot.val v).list? = some (L.map Dec.enc)) (hw : (Slot.val w).list? = some (M.map Dec.enc)) (hl : L.length < 2^40) (H : ∀ t ∈ L, SameDecOK t) (s : St) : cw (.f F_slices_EqualFunc_SDec_SDec_Dec_Dec) [v, w, .fn F_tree_sameDec []] s = some (.ret (.val (.bool (eqDecs false L M))), s) := by
  rw [slices_EqualFunc_SDec_SDec_Dec_Dec_eq]; simp only [go_sem, Nat.reduceAdd, Nat.reduceLeDiff, Nat.reduceSub, Nat.reduceMul, Nat.reduceEqDiff, Int.reduceEq, Int.reduceLT, Int.reduceLE, Int.reduceAdd, Int.reduceSub, Int.reduceNeg, Int.reduceGT, Int.reduceGE, Int.reduceNe, ne_eq, not_false_eq_true, hv, hw, List.length_map]
  by_cases he : M.length = L.length
  · have h1 := sameDecs_loop L M (.val v) (.val w) hv hw hl he L M [] [] s 0 rfl rfl rfl rfl H
    rw [show ((0 : Nat) : Int) = 0 from rfl] at h1
    simp only [go_sem, Nat.reduceAdd, Nat.reduceLeDiff, Nat.reduceSub, Nat.reduceMul, Nat.reduceEqDiff, Int.reduceEq, Int.reduceLT, Int.reduceLE, Int.reduceAdd, Int.reduceSub, Int.reduceNeg, Int.reduceGT, Int.reduceGE, Int.reduceNe, ne_eq, not_false_eq_true, decide_eq_true (show ((L.length : Int) = M.length) by omega), h1]
  · simp only [go_sem, Nat.reduceAdd, Nat.reduceLeDiff, Nat.reduceSub, Nat.reduceMul, Nat.reduceEqDiff, Int.reduceEq, Int.reduceLT, Int.reduceLE, Int.reduceAdd, Int.reduceSub, Int.reduceNeg, Int.reduceGT, Int.reduceGE, Int.reduceNe, ne_eq, not_false_eq_true, decide_eq_false (show ¬ ((L.length : Int) = M.length) by omega), eqDecs_len false L M (fun h => he h.symm)]

def SameFunOK (t : Fun) : Prop := ∀ u s, cw (.f F_tree_sameFun) [t.enc, u.enc] s = some (.ret (.val (.bool (eqFun false t u))), s)
theorem sameFuns_loop (L M : List Fun) (x y : Slot) (hx : x.list? = some (L.map Fun.enc)) (hy : y.list? = some (M.map Fun.enc)) (hl : L.length < 2^40) (he : M.length = L.length) : ∀ (suf suf' pre pre' : List Fun) (s : St) (i : Nat), pre ++ suf = L → pre' ++ suf' = M → i = pre.length → pre'.length = pre.length → (∀ t ∈ suf, SameFunOK t) →
    slices_EqualFunc_SFun_SFun_Fun_Fun_l0 y (.val (.fn F_tree_sameFun [])) x (.val (.int .i64 L.length)) (.val (.int .i64 i)) s = some (.ret (.val (.bool (eqFuns false suf suf'))), s)
  | [], suf', pre, pre', s, i, h, g, hi, hp, H => by
    subst hi
    have : suf' = [] := by
      have h1 := congrArg List.length h
      have h2 := congrArg List.length g
      simp only [List.length_append, List.length_nil] at h1 h2
      exact List.eq_nil_of_length_eq_zero (by omega)
    subst this
    rw [slices_EqualFunc_SFun_SFun_Fun_Fun_l0_eq]; simp only [go_sem, Nat.reduceAdd, Nat.reduceLeDiff, Nat.reduceSub, Nat.reduceMul, Nat.reduceEqDiff, Int.reduceEq, Int.reduceLT, Int.reduceLE, Int.reduceAdd, Int.reduceSub, Int.reduceNeg, Int.reduceGT, Int.reduceGE, Int.reduceNe, ne_eq, not_false_eq_true, end_facts (by simpa using h), eqFuns]
  | t :: suf, suf', pre, pre', s, i, h, g, hi, hp, H => by
    subst hi
    cases suf' with
    | nil =>
      have h1 := congrArg List.length h
      have h2 := congrArg List.length g
      simp only [List.length_append, List.length_nil, List.length_cons] at h1 h2
      omega
    | cons u suf' =>
      obtain ⟨f1, f2, f3⟩ := step_facts hx h (by omega) (Fun.cells_len t) (by decide)
      obtain ⟨-, g2, -⟩ := step_facts hy g (by omega) (Fun.cells_len u) (by decide)
      rw [hp] at g2
      have e1 := H t (List.mem_cons_self) u s
      have ih := sameFuns_loop L M x y hx hy hl he suf suf' (pre ++ [t]) (pre' ++ [u]) s (pre.length + 1) (by simpa using h) (by simpa using g) (by simp) (by simp [hp]) (fun w hw => H w (List.mem_cons_of_mem _ hw))
      rw [slices_EqualFunc_SFun_SFun_Fun_Fun_l0_eq]; simp only [go_sem, Nat.reduceAdd, Nat.reduceLeDiff, Nat.reduceSub, Nat.reduceMul, Nat.reduceEqDiff, Int.reduceEq, Int.reduceLT, Int.reduceLE, Int.reduceAdd, Int.reduceSub, Int.reduceNeg, Int.reduceGT, Int.reduceGE, Int.reduceNe, ne_eq, not_false_eq_true, f1, f2, f3, g2, e1, ih, eqFuns]
      cases eqFun false t u <;> rfl
theorem sameFuns_spec (L M : List Fun) (v w : AV) (hv : (Slot.val v).list? = some (L.map Fun.enc)) (hw : (Slot.val w).list? = some (M.map Fun.enc)) (hl : L.length < 2^40) (H : ∀ t ∈ L, SameFunOK t) (s : St) : cw (.f F_slices_EqualFunc_SFun_SFun_Fun_Fun) [v, w, .fn F_tree_sameFun []] s = some (.ret (.val (.bool (eqFuns false L M))), s) := by
  rw [slices_EqualFunc_SFun_SFun_Fun_Fun_eq]; simp only [go_sem, Nat.reduceAdd, Nat.reduceLeDiff, Nat.reduceSub, Nat.reduceMul, Nat.reduceEqDiff, Int.reduceEq, Int.reduceLT, Int.reduceLE, Int.reduceAdd, Int.reduceSub, Int.reduceNeg, Int.reduceGT, Int.reduceGE, Int.reduceNe, ne_eq, not_false_eq_true, hv, hw, List.length_map]
  by_cases he : M.length = L.length
  · have h1 := sameFuns_loop L M (.val v) (.val w) hv hw hl he L M [] [] s 0 rfl rfl rfl rfl H
    rw [show ((0 : Nat) : Int) = 0 from rfl] at h1
    simp only [go_sem, Nat.reduceAdd, Nat.reduceLeDiff, Nat.reduceSub, Nat.reduceMul, Nat.reduceEqDiff, Int.reduceEq, Int.reduceLT, Int.reduceLE, Int.reduceAdd, Int.reduceSub, Int.reduceNeg, Int.reduceGT, Int.reduceGE, Int.reduceNe, ne_eq, not_false_eq_true, decide_eq_true (show ((L.length : Int) = M.length) by omega), h1]
  · simp only [go_sem, Nat.reduceAdd, Nat.reduceLeDiff, Nat.reduceSub, Nat.reduceMul, Nat.reduceEqDiff, Int.reduceEq, Int.reduceLT, Int.reduceLE, Int.reduceAdd, Int.reduceSub, Int.reduceNeg, Int.reduceGT, Int.reduceGE, Int.reduceNe, ne_eq, not_false_eq_true, decide_eq_false (show ¬ ((L.length : Int) = M.length) by omega), eqFuns_len false L M (fun h => he h.symm)]

theorem sameTy_spec : ∀ (m : Nat) (t : Ty), t.size ≤ m → t.size < 2^40 → SameTyOK t
  | 0, .mk _ _ _ _ _, h, _ => by simp only [Ty.size] at h; omega
  | m + 1, .mk k n nm l nl, h, h' => fun u s => by
    obtain ⟨k', n', nm', l', nl'⟩ := u
    simp only [Ty.size] at h h'
    have hl := Ty.len_sizes l
    have e1 := fun s => sameTys_spec l l' (encS nl (l.map Ty.enc)) (encS nl' (l'.map Ty.enc)) (by simp only [go_sem, Nat.reduceAdd, Nat.reduceLeDiff, Nat.reduceSub, Nat.reduceMul, Nat.reduceEqDiff, Int.reduceEq, Int.reduceLT, Int.reduceLE, Int.reduceAdd, Int.reduceSub, Int.reduceNeg, Int.reduceGT, Int.reduceGE, Int.reduceNe, ne_eq, not_false_eq_true]) (by simp only [go_sem, Nat.reduceAdd, Nat.reduceLeDiff, Nat.reduceSub, Nat.reduceMul, Nat.reduceEqDiff, Int.reduceEq, Int.reduceLT, Int.reduceLE, Int.reduceAdd, Int.reduceSub, Int.reduceNeg, Int.reduceGT, Int.reduceGE, Int.reduceNe, ne_eq, not_false_eq_true]) (by omega) (fun t ht => by have := Ty.mem_sizes ht; exact sameTy_spec m t (by omega) (by omega)) s
    rw [tree_sameTy_eq]; simp only [go_sem, Nat.reduceAdd, Nat.reduceLeDiff, Nat.reduceSub, Nat.reduceMul, Nat.reduceEqDiff, Int.reduceEq, Int.reduceLT, Int.reduceLE, Int.reduceAdd, Int.reduceSub, Int.reduceNeg, Int.reduceGT, Int.reduceGE, Int.reduceNe, ne_eq, not_false_eq_true, Ty.enc, e1, eqTy]

theorem samePat_spec : ∀ (m : Nat) (t : Pat), t.size ≤ m → t.size < 2^40 → SamePatOK t
  | 0, .mk _ _ _ _ _ _, h, _ => by simp only [Pat.size] at h; omega
  | m + 1, .mk k a nm n l nl, h, h' => fun u s => by
    obtain ⟨k', a', nm', n', l', nl'⟩ := u
    simp only [Pat.size] at h h'
    have hl := Pat.len_sizes l
    have e1 := fun s => samePats_spec l l' (encS nl (l.map Pat.enc)) (encS nl' (l'.map Pat.enc)) (by simp only [go_sem, Nat.reduceAdd, Nat.reduceLeDiff, Nat.reduceSub, Nat.reduceMul, Nat.reduceEqDiff, Int.reduceEq, Int.reduceLT, Int.reduceLE, Int.reduceAdd, Int.reduceSub, Int.reduceNeg, Int.reduceGT, Int.reduceGE, Int.reduceNe, ne_eq, not_false_eq_true]) (by simp only [go_sem, Nat.reduceAdd, Nat.reduceLeDiff, Nat.reduceSub, Nat.reduceMul, Nat.reduceEqDiff, Int.reduceEq, Int.reduceLT, Int.reduceLE, Int.reduceAdd, Int.reduceSub, Int.reduceNeg, Int.reduceGT, Int.reduceGE, Int.reduceNe, ne_eq, not_false_eq_true]) (by omega) (fun t ht => by have := Pat.mem_sizes ht; exact samePat_spec m t (by omega) (by omega)) s
    rw [tree_samePat_eq]; simp only [go_sem, Nat.reduceAdd, Nat.reduceLeDiff, Nat.reduceSub, Nat.reduceMul, Nat.reduceEqDiff, Int.reduceEq, Int.reduceLT, Int.reduceLE, Int.reduceAdd, Int.reduceSub, Int.reduceNeg, Int.reduceGT, Int.reduceGE, Int.reduceNe, ne_eq, not_false_eq_true, Pat.enc, e1, eqPat, atB, Bool.not_false, Bool.true_or, Bool.and_true]

theorem sameCon_spec (t : Con) (h : t.size < 2^40) : SameConOK t := fun u s => by
  obtain ⟨nm, a, hs, ty⟩ := t
  obtain ⟨nm', a', hs', ty'⟩ := u
  simp only [Con.size] at h
  have e1 := fun s => sameTy_spec ty.size ty (Nat.le_refl _) (by omega) ty' s
  rw [tree_sameCon_eq]; simp only [go_sem, Nat.reduceAdd, Nat.reduceLeDiff, Nat.reduceSub, Nat.reduceMul, Nat.reduceEqDiff, Int.reduceEq, Int.reduceLT, Int.reduceLE, Int.reduceAdd, Int.reduceSub, Int.reduceNeg, Int.reduceGT, Int.reduceGE, Int.reduceNe, ne_eq, not_false_eq_true, Con.enc, Con.cells, e1, eqCon, atB, Bool.not_false, Bool.true_or, Bool.and_true]
  have e2 : (hs == hs') = decide (hs = hs') := by cases hs <;> cases hs' <;> rfl
  rw [e2]

theorem same_all : ∀ m : Nat, (∀ e : Exp, e.size ≤ m → e.size < 2^40 → SameExpOK e) ∧ (∀ c : Case, c.size ≤ m → c.size < 2^40 → SameCaseOK c) ∧ (∀ d : Dec, d.size ≤ m → d.size < 2^40 → SameDecOK d) := by
  intro m
  induction m with
  | zero =>
    refine ⟨fun e h _ => ?_, fun c h _ => ?_, fun d h _ => ?_⟩
    · obtain ⟨k, a, nm, n, l, lb, c, cb, d, db⟩ := e
      simp only [Exp.size] at h; omega
    · obtain ⟨p, e⟩ := c; simp only [Case.size] at h; omega
    · obtain ⟨k, a, nm, p, l, nb, c, cb, f, fb⟩ := d; simp only [Dec.size] at h; omega
  | succ m ih =>
    obtain ⟨ihE, ihC, ihD⟩ := ih
    refine ⟨fun e h h' u s => ?_, fun c h h' u s => ?_, fun d h h' u s => ?_⟩
    · obtain ⟨k, a, nm, n, l, lb, c, cb, d, db⟩ := e
      obtain ⟨k', a', nm', n', l', lb', c', cb', d', db'⟩ := u
      simp only [Exp.size] at h h'
      have h1 := Exp.len_sizes l
      have h2 := Case.len_sizes c
      have h3 := Dec.len_sizes d
      have e1 := fun s => sameExps_spec l l' (encS lb (l.map Exp.enc)) (encS lb' (l'.map Exp.enc)) (by simp only [go_sem, Nat.reduceAdd, Nat.reduceLeDiff, Nat.reduceSub, Nat.reduceMul, Nat.reduceEqDiff, Int.reduceEq, Int.reduceLT, Int.reduceLE, Int.reduceAdd, Int.reduceSub, Int.reduceNeg, Int.reduceGT, Int.reduceGE, Int.reduceNe, ne_eq, not_false_eq_true]) (by simp only [go_sem, Nat.reduceAdd, Nat.reduceLeDiff, Nat.reduceSub, Nat.reduceMul, Nat.reduceEqDiff, Int.reduceEq, Int.reduceLT, Int.reduceLE, Int.reduceAdd, Int.reduceSub, Int.reduceNeg, Int.reduceGT, Int.reduceGE, Int.reduceNe, ne_eq, not_false_eq_true]) (by omega) (fun t ht => by have := Exp.mem_sizes ht; exact ihE t (by omega) (by omega)) s
      have e2 := fun s => sameCases_spec c c' (encS cb (c.map Case.enc)) (encS cb' (c'.map Case.enc)) (by simp only [go_sem, Nat.reduceAdd, Nat.reduceLeDiff, Nat.reduceSub, Nat.reduceMul, Nat.reduceEqDiff, Int.reduceEq, Int.reduceLT, Int.reduceLE, Int.reduceAdd, Int.reduceSub, Int.reduceNeg, Int.reduceGT, Int.reduceGE, Int.reduceNe, ne_eq, not_false_eq_true]) (by simp only [go_sem, Nat.reduceAdd, Nat.reduceLeDiff, Nat.reduceSub, Nat.reduceMul, Nat.reduceEqDiff, Int.reduceEq, Int.reduceLT, Int.reduceLE, Int.reduceAdd, Int.reduceSub, Int.reduceNeg, Int.reduceGT, Int.reduceGE, Int.reduceNe, ne_eq, not_false_eq_true]) (by omega) (fun t ht => by have := Case.mem_sizes ht; exact ihC t (by omega) (by omega)) s
      have e3 := fun s => sameDecs_spec d d' (encS db (d.map Dec.enc)) (encS db' (d'.map Dec.enc)) (by simp only [go_sem, Nat.reduceAdd, Nat.reduceLeDiff, Nat.reduceSub, Nat.reduceMul, Nat.reduceEqDiff, Int.reduceEq, Int.reduceLT, Int.reduceLE, Int.reduceAdd, Int.reduceSub, Int.reduceNeg, Int.reduceGT, Int.reduceGE, Int.reduceNe, ne_eq, not_false_eq_true]) (by simp only [go_sem, Nat.reduceAdd, Nat.reduceLeDiff, Nat.reduceSub, Nat.reduceMul, Nat.reduceEqDiff, Int.reduceEq, Int.reduceLT, Int.reduceLE, Int.reduceAdd, Int.reduceSub, Int.reduceNeg, Int.reduceGT, Int.reduceGE, Int.reduceNe, ne_eq, not_false_eq_true]) (by omega) (fun t ht => by have := Dec.mem_sizes ht; exact ihD t (by omega) (by omega)) s
      rw [tree_sameExp_eq]; simp only [go_sem, Nat.reduceAdd, Nat.reduceLeDiff, Nat.reduceSub, Nat.reduceMul, Nat.reduceEqDiff, Int.reduceEq, Int.reduceLT, Int.reduceLE, Int.reduceAdd, Int.reduceSub, Int.reduceNeg, Int.reduceGT, Int.reduceGE, Int.reduceNe, ne_eq, not_false_eq_true, Exp.enc, e1, e2, tree_Same_eq, e3, eqExp, atB, Bool.not_false, Bool.true_or, Bool.and_true]
    · obtain ⟨p, e⟩ := c
      obtain ⟨p', e'⟩ := u
      simp only [Case.size] at h h'
      have e1 := fun s => samePat_spec p.size p (Nat.le_refl _) (by omega) p' s
      have e2 := fun s => ihE e (by omega) (by omega) e' s
      rw [tree_sameCase_eq]; simp only [go_sem, Nat.reduceAdd, Nat.reduceLeDiff, Nat.reduceSub, Nat.reduceMul, Nat.reduceEqDiff, Int.reduceEq, Int.reduceLT, Int.reduceLE, Int.reduceAdd, Int.reduceSub, Int.reduceNeg, Int.reduceGT, Int.reduceGE, Int.reduceNe, ne_eq, not_false_eq_true, Case.enc, e1, e2, eqCase]
    · obtain ⟨k, a, nm, p, l, nb, c, cb, f, fb⟩ := d
      obtain ⟨k', a', nm', p', l', nb', c', cb', f', fb'⟩ := u
      simp only [Dec.size] at h h'
      have h1 := Con.len_sizes l
      have h2 := Case.len_sizes c
      have h3 := Fun.len_sizes f
      have e1 := fun s => sameCons_spec l l' (encS nb (l.map Con.enc)) (encS nb' (l'.map Con.enc)) (by simp only [go_sem, Nat.reduceAdd, Nat.reduceLeDiff, Nat.reduceSub, Nat.reduceMul, Nat.reduceEqDiff, Int.reduceEq, Int.reduceLT, Int.reduceLE, Int.reduceAdd, Int.reduceSub, Int.reduceNeg, Int.reduceGT, Int.reduceGE, Int.reduceNe, ne_eq, not_false_eq_true]) (by simp only [go_sem, Nat.reduceAdd, Nat.reduceLeDiff, Nat.reduceSub, Nat.reduceMul, Nat.reduceEqDiff, Int.reduceEq, Int.reduceLT, Int.reduceLE, Int.reduceAdd, Int.reduceSub, Int.reduceNeg, Int.reduceGT, Int.reduceGE, Int.reduceNe, ne_eq, not_false_eq_true]) (by omega) (fun t ht => by have := Con.mem_sizes ht; exact sameCon_spec t (by omega)) s
      have e2 := fun s => sameCases_spec c c' (encS cb (c.map Case.enc)) (encS cb' (c'.map Case.enc)) (by simp only [go_sem, Nat.reduceAdd, Nat.reduceLeDiff, Nat.reduceSub, Nat.reduceMul, Nat.reduceEqDiff, Int.reduceEq, Int.reduceLT, Int.reduceLE, Int.reduceAdd, Int.reduceSub, Int.reduceNeg, Int.reduceGT, Int.reduceGE, Int.reduceNe, ne_eq, not_false_eq_true]) (by simp only [go_sem, Nat.reduceAdd, Nat.reduceLeDiff, Nat.reduceSub, Nat.reduceMul, Nat.reduceEqDiff, Int.reduceEq, Int.reduceLT, Int.reduceLE, Int.reduceAdd, Int.reduceSub, Int.reduceNeg, Int.reduceGT, Int.reduceGE, Int.reduceNe, ne_eq, not_false_eq_true]) (by omega) (fun t ht => by have := Case.mem_sizes ht; exact ihC t (by omega) (by omega)) s
      have e3 := fun s => sameFuns_spec f f' (encS fb (f.map Fun.enc)) (encS fb' (f'.map Fun.enc)) (by simp only [go_sem, Nat.reduceAdd, Nat.reduceLeDiff, Nat.reduceSub, Nat.reduceMul, Nat.reduceEqDiff, Int.reduceEq, Int.reduceLT, Int.reduceLE, Int.reduceAdd, Int.reduceSub, Int.reduceNeg, Int.reduceGT, Int.reduceGE, Int.reduceNe, ne_eq, not_false_eq_true]) (by simp only [go_sem, Nat.reduceAdd, Nat.reduceLeDiff, Nat.reduceSub, Nat.reduceMul, Nat.reduceEqDiff, Int.reduceEq, Int.reduceLT, Int.reduceLE, Int.reduceAdd, Int.reduceSub, Int.reduceNeg, Int.reduceGT, Int.reduceGE, Int.reduceNe, ne_eq, not_false_eq_true]) (by omega) (fun t ht => by
        have := Fun.mem_sizes ht
        intro u s
        obtain ⟨fn, fa, fc⟩ := t
        obtain ⟨fn', fa', fc'⟩ := u
        simp only [Fun.size] at this
        have e4 := fun s => ihC fc (by omega) (by omega) fc' s
        rw [tree_sameFun_eq]; simp only [go_sem, Nat.reduceAdd, Nat.reduceLeDiff, Nat.reduceSub, Nat.reduceMul, Nat.reduceEqDiff, Int.reduceEq, Int.reduceLT, Int.reduceLE, Int.reduceAdd, Int.reduceSub, Int.reduceNeg, Int.reduceGT, Int.reduceGE, Int.reduceNe, ne_eq, not_false_eq_true, Fun.enc, e4, eqFun, atB, Bool.not_false, Bool.true_or, Bool.and_true]) s
      rw [tree_sameDec_eq]; simp only [go_sem, Nat.reduceAdd, Nat.reduceLeDiff, Nat.reduceSub, Nat.reduceMul, Nat.reduceEqDiff, Int.reduceEq, Int.reduceLT, Int.reduceLE, Int.reduceAdd, Int.reduceSub, Int.reduceNeg, Int.reduceGT, Int.reduceGE, Int.reduceNe, ne_eq, not_false_eq_true, Dec.enc, e1, e2, e3, eqDec, atB, Bool.not_false, Bool.true_or, Bool.and_true]

theorem tree_Same_spec (L M : List Dec) (b c : Bool) (s : St) (h : Dec.sizes L < 2^40) : cw (.f F_tree_Same) [encS b (L.map Dec.enc), encS c (M.map Dec.enc)] s = some (.ret (.val (.bool (eqDecs false L M))), s) := by
  have hl := Dec.len_sizes L
  have e1 := sameDecs_spec L M (encS b (L.map Dec.enc)) (encS c (M.map Dec.enc)) (by simp only [go_sem, Nat.reduceAdd, Nat.reduceLeDiff, Nat.reduceSub, Nat.reduceMul, Nat.reduceEqDiff, Int.reduceEq, Int.reduceLT, Int.reduceLE, Int.reduceAdd, Int.reduceSub, Int.reduceNeg, Int.reduceGT, Int.reduceGE, Int.reduceNe, ne_eq, not_false_eq_true]) (by simp only [go_sem, Nat.reduceAdd, Nat.reduceLeDiff, Nat.reduceSub, Nat.reduceMul, Nat.reduceEqDiff, Int.reduceEq, Int.reduceLT, Int.reduceLE, Int.reduceAdd, Int.reduceSub, Int.reduceNeg, Int.reduceGT, Int.reduceGE, Int.reduceNe, ne_eq, not_false_eq_true]) (by omega) (fun t ht => by have := Dec.mem_sizes ht; exact (same_all t.size).2.2 t (Nat.le_refl _) (by omega)) s
  rw [tree_Same_eq]; simp only [go_sem, Nat.reduceAdd, Nat.reduceLeDiff, Nat.reduceSub, Nat.reduceMul, Nat.reduceEqDiff, Int.reduceEq, Int.reduceLT, Int.reduceLE, Int.reduceAdd, Int.reduceSub, Int.reduceNeg, Int.reduceGT, Int.reduceGE, Int.reduceNe, ne_eq, not_false_eq_true, e1]

end Go.Proofs.Ytemfpnlpnmglfaa
