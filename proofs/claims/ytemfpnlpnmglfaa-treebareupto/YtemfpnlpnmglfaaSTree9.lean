/- The tree layer: a tree without its places. -/
import Derived.Test.YtemfpnlpnmglfaaPBare
import Derived.Test.YtemfpnlpnmglfaaG
set_option linter.unusedVariables false
set_option linter.unusedSimpArgs false
namespace Go.Proofs.Ytemfpnlpnmglfaa
open Go Go.Am
set_option maxRecDepth 4000

def BareTy (t : Ty) : Prop := ∀ s, ∃ t' s', cw (.f F_tree_bareTy) [t.enc] s = some (.ret (.val t'.enc), s') ∧ Grew s s' ∧ nmTy t' = nmTy t
theorem eachTy_loop (L : List Ty) (y : Slot) (hy : y.list? = some (L.map Ty.enc)) (hl : L.length < 2^28) (s0 : St) : ∀ (suf pre A : List Ty) (x : Slot) (s : St) (i : Nat), AccR T_Ty s0 s x (A.map Ty.enc) → pre ++ suf = L → i = pre.length → A.length = pre.length → (∀ t ∈ suf, BareTy t) →
    ∃ x' s' R, tree_each_Ty_l0 (.val (.fn F_tree_bareTy [])) x y (.val (.int .i64 L.length)) (.val (.int .i64 i)) s = some (.ret x', s') ∧ AccR T_Ty s0 s' x' ((A ++ R).map Ty.enc) ∧ nmTys R = nmTys suf
  | [], pre, A, x, s, i, hA, h, hi, hn, H => by
    subst hi
    rw [tree_each_Ty_l0_eq]; simp only [go_sem, Nat.reduceAdd, Nat.reduceLeDiff, Nat.reduceSub, Nat.reduceMul, Nat.reduceEqDiff, Int.reduceEq, Int.reduceLT, Int.reduceLE, Int.reduceAdd, Int.reduceSub, Int.reduceNeg, Int.reduceGT, Int.reduceGE, Int.reduceNe, ne_eq, not_false_eq_true, end_facts (by simpa using h)]
    exact ⟨x, s, [], rfl, by simpa using hA, by simp only [nmTys]⟩
  | t :: suf, pre, A, x, s, i, hA, h, hi, hn, H => by
    subst hi
    obtain ⟨f1, f2, f3⟩ := step_facts hy h (by omega) (Ty.cells_len t) (by decide)
    obtain ⟨t', s1, e1, g1, h1⟩ := H t (List.mem_cons_self) s
    have hlen : pre.length < L.length := by rw [← h]; simp
    obtain ⟨x1, s2, e2, g2⟩ := AccR.appendF (t := C.ti T_Ty) (f := Ty.enc) (B := [t']) (y := .full [t'.enc]) (hA.move g1) rfl (fun a => by rw [T_Ty_size]; exact Ty.cells_len a) (by decide +kernel) (by simp only [List.length_singleton]; omega) (by decide +kernel)
    obtain ⟨x', s', R, e3, g3, h3⟩ := eachTy_loop L y hy hl s0 suf (pre ++ [t]) (A ++ [t']) x1 s2 (pre.length + 1) g2 (by simpa using h) (by simp) (by simp [hn]) (fun w hw => H w (List.mem_cons_of_mem _ hw))
    refine ⟨x', s', t' :: R, ?_, by simpa using g3, by simp only [nmTys, h1, h3]⟩
    rw [tree_each_Ty_l0_eq]; simp only [go_sem, Nat.reduceAdd, Nat.reduceLeDiff, Nat.reduceSub, Nat.reduceMul, Nat.reduceEqDiff, Int.reduceEq, Int.reduceLT, Int.reduceLE, Int.reduceAdd, Int.reduceSub, Int.reduceNeg, Int.reduceGT, Int.reduceGE, Int.reduceNe, ne_eq, not_false_eq_true, f1, f2, e1, e2, f3, e3]
theorem eachTy_spec (L : List Ty) (v : AV) (hv : (Slot.val v).list? = some (L.map Ty.enc)) (hl : L.length < 2^28) (H : ∀ t ∈ L, BareTy t) (s : St) : ∃ x s' R b, cw (.f F_tree_each_Ty) [v, .fn F_tree_bareTy []] s = some (.ret x, s') ∧ Grew s s' ∧ x.cellOk = true ∧ x.av = some (encS b (R.map Ty.enc)) ∧ nmTys R = nmTys L := by
  obtain ⟨x, s', R, e1, g1, h1⟩ := eachTy_loop L (.val v) hv hl s L [] [] (.val .nils) s 0 (AccR.nil _ s) rfl rfl rfl H
  rw [show ((0 : Nat) : Int) = 0 from rfl] at e1
  obtain ⟨b, hb⟩ := g1.av
  refine ⟨x, s', R, b, ?_, g1.grew, g1.cellOk, hb, h1⟩
  rw [tree_each_Ty_eq]; simp only [go_sem, Nat.reduceAdd, Nat.reduceLeDiff, Nat.reduceSub, Nat.reduceMul, Nat.reduceEqDiff, Int.reduceEq, Int.reduceLT, Int.reduceLE, Int.reduceAdd, Int.reduceSub, Int.reduceNeg, Int.reduceGT, Int.reduceGE, Int.reduceNe, ne_eq, not_false_eq_true, hv, List.length_map, e1]

def BarePat (t : Pat) : Prop := ∀ s, ∃ t' s', cw (.f F_tree_barePat) [t.enc] s = some (.ret (.val t'.enc), s') ∧ Grew s s' ∧ nmPat true t' = nmPat false t
theorem eachPat_loop (L : List Pat) (y : Slot) (hy : y.list? = some (L.map Pat.enc)) (hl : L.length < 2^28) (s0 : St) : ∀ (suf pre A : List Pat) (x : Slot) (s : St) (i : Nat), AccR T_Pat s0 s x (A.map Pat.enc) → pre ++ suf = L → i = pre.length → A.length = pre.length → (∀ t ∈ suf, BarePat t) →
    ∃ x' s' R, tree_each_Pat_l0 (.val (.fn F_tree_barePat [])) x y (.val (.int .i64 L.length)) (.val (.int .i64 i)) s = some (.ret x', s') ∧ AccR T_Pat s0 s' x' ((A ++ R).map Pat.enc) ∧ nmPats true R = nmPats false suf
  | [], pre, A, x, s, i, hA, h, hi, hn, H => by
    subst hi
    rw [tree_each_Pat_l0_eq]; simp only [go_sem, Nat.reduceAdd, Nat.reduceLeDiff, Nat.reduceSub, Nat.reduceMul, Nat.reduceEqDiff, Int.reduceEq, Int.reduceLT, Int.reduceLE, Int.reduceAdd, Int.reduceSub, Int.reduceNeg, Int.reduceGT, Int.reduceGE, Int.reduceNe, ne_eq, not_false_eq_true, end_facts (by simpa using h)]
    exact ⟨x, s, [], rfl, by simpa using hA, by simp only [nmPats]⟩
  | t :: suf, pre, A, x, s, i, hA, h, hi, hn, H => by
    subst hi
    obtain ⟨f1, f2, f3⟩ := step_facts hy h (by omega) (Pat.cells_len t) (by decide)
    obtain ⟨t', s1, e1, g1, h1⟩ := H t (List.mem_cons_self) s
    have hlen : pre.length < L.length := by rw [← h]; simp
    obtain ⟨x1, s2, e2, g2⟩ := AccR.appendF (t := C.ti T_Pat) (f := Pat.enc) (B := [t']) (y := .full [t'.enc]) (hA.move g1) rfl (fun a => by rw [T_Pat_size]; exact Pat.cells_len a) (by decide +kernel) (by simp only [List.length_singleton]; omega) (by decide +kernel)
    obtain ⟨x', s', R, e3, g3, h3⟩ := eachPat_loop L y hy hl s0 suf (pre ++ [t]) (A ++ [t']) x1 s2 (pre.length + 1) g2 (by simpa using h) (by simp) (by simp [hn]) (fun w hw => H w (List.mem_cons_of_mem _ hw))
    refine ⟨x', s', t' :: R, ?_, by simpa using g3, by simp only [nmPats, h1, h3]⟩
    rw [tree_each_Pat_l0_eq]; simp only [go_sem, Nat.reduceAdd, Nat.reduceLeDiff, Nat.reduceSub, Nat.reduceMul, Nat.reduceEqDiff, Int.reduceEq, Int.reduceLT, Int.reduceLE, Int.reduceAdd, Int.reduceSub, Int.reduceNeg, Int.reduceGT, Int.reduceGE, Int.reduceNe, ne_eq, not_false_eq_true, f1, f2, e1, e2, f3, e3]
theorem eachPat_spec (L : List Pat) (v : AV) (hv : (Slot.val v).list? = some (L.map Pat.enc)) (hl : L.length < 2^28) (H : ∀ t ∈ L, BarePat t) (s : St) : ∃ x s' R b, cw (.f F_tree_each_Pat) [v, .fn F_tree_barePat []] s = some (.ret x, s') ∧ Grew s s' ∧ x.cellOk = true ∧ x.av = some (encS b (R.map Pat.enc)) ∧ nmPats true R = nmPats false L := by
  obtain ⟨x, s', R, e1, g1, h1⟩ := eachPat_loop L (.val v) hv hl s L [] [] (.val .nils) s 0 (AccR.nil _ s) rfl rfl rfl H
  rw [show ((0 : Nat) : Int) = 0 from rfl] at e1
  obtain ⟨b, hb⟩ := g1.av
  refine ⟨x, s', R, b, ?_, g1.grew, g1.cellOk, hb, h1⟩
  rw [tree_each_Pat_eq]; simp only [go_sem, Nat.reduceAdd, Nat.reduceLeDiff, Nat.reduceSub, Nat.reduceMul, Nat.reduceEqDiff, Int.reduceEq, Int.reduceLT, Int.reduceLE, Int.reduceAdd, Int.reduceSub, Int.reduceNeg, Int.reduceGT, Int.reduceGE, Int.reduceNe, ne_eq, not_false_eq_true, hv, List.length_map, e1]

def BareCon (t : Con) : Prop := ∀ s, ∃ t' s', cw (.f F_tree_bareDec_2) [t.enc] s = some (.ret (.val t'.enc), s') ∧ Grew s s' ∧ nmCon true t' = nmCon false t
theorem eachCon_loop (L : List Con) (y : Slot) (hy : y.list? = some (L.map Con.enc)) (hl : L.length < 2^28) (s0 : St) : ∀ (suf pre A : List Con) (x : Slot) (s : St) (i : Nat), AccR T_Con s0 s x (A.map Con.enc) → pre ++ suf = L → i = pre.length → A.length = pre.length → (∀ t ∈ suf, BareCon t) →
    ∃ x' s' R, tree_each_Con_l0 (.val (.fn F_tree_bareDec_2 [])) x y (.val (.int .i64 L.length)) (.val (.int .i64 i)) s = some (.ret x', s') ∧ AccR T_Con s0 s' x' ((A ++ R).map Con.enc) ∧ nmCons true R = nmCons false suf
  | [], pre, A, x, s, i, hA, h, hi, hn, H => by
    subst hi
    rw [tree_each_Con_l0_eq]; simp only [go_sem, Nat.reduceAdd, Nat.reduceLeDiff, Nat.reduceSub, Nat.reduceMul, Nat.reduceEqDiff, Int.reduceEq, Int.reduceLT, Int.reduceLE, Int.reduceAdd, Int.reduceSub, Int.reduceNeg, Int.reduceGT, Int.reduceGE, Int.reduceNe, ne_eq, not_false_eq_true, end_facts (by simpa using h)]
    exact ⟨x, s, [], rfl, by simpa using hA, by simp only [nmCons]⟩
  | t :: suf, pre, A, x, s, i, hA, h, hi, hn, H => by
    subst hi
    obtain ⟨f1, f2, f3⟩ := step_facts hy h (by omega) (Con.cells_len t) (by decide)
    obtain ⟨t', s1, e1, g1, h1⟩ := H t (List.mem_cons_self) s
    have hlen : pre.length < L.length := by rw [← h]; simp
    obtain ⟨x1, s2, e2, g2⟩ := AccR.appendF (t := C.ti T_Con) (f := Con.enc) (B := [t']) (y := .full [t'.enc]) (hA.move g1) rfl (fun a => by rw [T_Con_size]; exact Con.cells_len a) (by decide +kernel) (by simp only [List.length_singleton]; omega) (by decide +kernel)
    obtain ⟨x', s', R, e3, g3, h3⟩ := eachCon_loop L y hy hl s0 suf (pre ++ [t]) (A ++ [t']) x1 s2 (pre.length + 1) g2 (by simpa using h) (by simp) (by simp [hn]) (fun w hw => H w (List.mem_cons_of_mem _ hw))
    refine ⟨x', s', t' :: R, ?_, by simpa using g3, by simp only [nmCons, h1, h3]⟩
    rw [tree_each_Con_l0_eq]; simp only [go_sem, Nat.reduceAdd, Nat.reduceLeDiff, Nat.reduceSub, Nat.reduceMul, Nat.reduceEqDiff, Int.reduceEq, Int.reduceLT, Int.reduceLE, Int.reduceAdd, Int.reduceSub, Int.reduceNeg, Int.reduceGT, Int.reduceGE, Int.reduceNe, ne_eq, not_false_eq_true, f1, f2, e1, e2, f3, e3]
theorem eachCon_spec (L : List Con) (v : AV) (hv : (Slot.val v).list? = some (L.map Con.enc)) (hl : L.length < 2^28) (H : ∀ t ∈ L, BareCon t) (s : St) : ∃ x s' R b, cw (.f F_tree_each_Con) [v, .fn F_tree_bareDec_2 []] s = some (.ret x, s') ∧ Grew s s' ∧ x.cellOk = true ∧ x.av = some (encS b (R.map Con.enc)) ∧ nmCons true R = nmCons false L := by
  obtain ⟨x, s', R, e1, g1, h1⟩ := eachCon_loop L (.val v) hv hl s L [] [] (.val .nils) s 0 (AccR.nil _ s) rfl rfl rfl H
  rw [show ((0 : Nat) : Int) = 0 from rfl] at e1
  obtain ⟨b, hb⟩ := g1.av
  refine ⟨x, s', R, b, ?_, g1.grew, g1.cellOk, hb, h1⟩
  rw [tree_each_Con_eq]; simp only [go_sem, Nat.reduceAdd, Nat.reduceLeDiff, Nat.reduceSub, Nat.reduceMul, Nat.reduceEqDiff, Int.reduceEq, Int.reduceLT, Int.reduceLE, Int.reduceAdd, Int.reduceSub, Int.reduceNeg, Int.reduceGT, Int.reduceGE, Int.reduceNe, ne_eq, not_false_eq_true, hv, List.length_map, e1]

def BareExp (t : Exp) : Prop := ∀ s, ∃ t' s', cw (.f F_tree_bareExp) [t.enc] s = some (.ret (.val t'.enc), s') ∧ Grew s s' ∧ nmExp true t' = nmExp false t
theorem eachExp_loop (L : List Exp) (y : Slot) (hy : y.list? = some (L.map Exp.enc)) (hl : L.length < 2^28) (s0 : St) : ∀ (suf pre A : List Exp) (x : Slot) (s : St) (i : Nat), AccR T_Exp s0 s x (A.map Exp.enc) → pre ++ suf = L → i = pre.length → A.length = pre.length → (∀ t ∈ suf, BareExp t) →
    ∃ x' s' R, tree_each_Exp_l0 (.val (.fn F_tree_bareExp [])) x y (.val (.int .i64 L.length)) (.val (.int .i64 i)) s = some (.ret x', s') ∧ AccR T_Exp s0 s' x' ((A ++ R).map Exp.enc) ∧ nmExps true R = nmExps false suf
  | [], pre, A, x, s, i, hA, h, hi, hn, H => by
    subst hi
    rw [tree_each_Exp_l0_eq]; simp only [go_sem, Nat.reduceAdd, Nat.reduceLeDiff, Nat.reduceSub, Nat.reduceMul, Nat.reduceEqDiff, Int.reduceEq, Int.reduceLT, Int.reduceLE, Int.reduceAdd, Int.reduceSub, Int.reduceNeg, Int.reduceGT, Int.reduceGE, Int.reduceNe, ne_eq, not_false_eq_true, end_facts (by simpa using h)]
    exact ⟨x, s, [], rfl, by simpa using hA, by simp only [nmExps]⟩
  | t :: suf, pre, A, x, s, i, hA, h, hi, hn, H => by
    subst hi
    obtain ⟨f1, f2, f3⟩ := step_facts hy h (by omega) (Exp.cells_len t) (by decide)
    obtain ⟨t', s1, e1, g1, h1⟩ := H t (List.mem_cons_self) s
    have hlen : pre.length < L.length := by rw [← h]; simp
    obtain ⟨x1, s2, e2, g2⟩ := AccR.appendF (t := C.ti T_Exp) (f := Exp.enc) (B := [t']) (y := .full [t'.enc]) (hA.move g1) rfl (fun a => by rw [T_Exp_size]; exact Exp.cells_len a) (by decide +kernel) (by simp only [List.length_singleton]; omega) (by decide +kernel)
    obtain ⟨x', s', R, e3, g3, h3⟩ := eachExp_loop L y hy hl s0 suf (pre ++ [t]) (A ++ [t']) x1 s2 (pre.length + 1) g2 (by simpa using h) (by simp) (by simp [hn]) (fun w hw => H w (List.mem_cons_of_mem _ hw))
    refine ⟨x', s', t' :: R, ?_, by simpa using g3, by simp only [nmExps, h1, h3]⟩
    rw [tree_each_Exp_l0_eq]; simp only [go_sem, Nat.reduceAdd, Nat.reduceLeDiff, Nat.reduceSub, Nat.reduceMul, Nat.reduceEqDiff, Int.reduceEq, Int.reduceLT, Int.reduceLE, Int.reduceAdd, Int.reduceSub, Int.reduceNeg, Int.reduceGT, Int.reduceGE, Int.reduceNe, ne_eq, not_false_eq_true, f1, f2, e1, e2, f3, e3]
theorem eachExp_spec (L : List Exp) (v : AV) (hv : (Slot.val v).list? = some (L.map Exp.enc)) (hl : L.length < 2^28) (H : ∀ t ∈ L, BareExp t) (s : St) : ∃ x s' R b, cw (.f F_tree_each_Exp) [v, .fn F_tree_bareExp []] s = some (.ret x, s') ∧ Grew s s' ∧ x.cellOk = true ∧ x.av = some (encS b (R.map Exp.enc)) ∧ nmExps true R = nmExps false L := by
  obtain ⟨x, s', R, e1, g1, h1⟩ := eachExp_loop L (.val v) hv hl s L [] [] (.val .nils) s 0 (AccR.nil _ s) rfl rfl rfl H
  rw [show ((0 : Nat) : Int) = 0 from rfl] at e1
  obtain ⟨b, hb⟩ := g1.av
  refine ⟨x, s', R, b, ?_, g1.grew, g1.cellOk, hb, h1⟩
  rw [tree_each_Exp_eq]; simp only [go_sem, Nat.reduceAdd, Nat.reduceLeDiff, Nat.reduceSub, Nat.reduceMul, Nat.reduceEqDiff, Int.reduceEq, Int.reduceLT, Int.reduceLE, Int.reduceAdd, Int.reduceSub, Int.reduceNeg, Int.reduceGT, Int.reduceGE, Int.reduceNe, ne_eq, not_false_eq_true, hv, List.length_map, e1]

def BareCase (t : Case) : Prop := ∀ s, ∃ t' s', cw (.f F_tree_bareCase) [t.enc] s = some (.ret (.val t'.enc), s') ∧ Grew s s' ∧ nmCase true t' = nmCase false t
theorem eachCase_loop (L : List Case) (y : Slot) (hy : y.list? = some (L.map Case.enc)) (hl : L.length < 2^28) (s0 : St) : ∀ (suf pre A : List Case) (x : Slot) (s : St) (i : Nat), AccR T_Case s0 s x (A.map Case.enc) → pre ++ suf = L → i = pre.length → A.length = pre.length → (∀ t ∈ suf, BareCase t) →
    ∃ x' s' R, tree_each_Case_l0 (.val (.fn F_tree_bareCase [])) x y (.val (.int .i64 L.length)) (.val (.int .i64 i)) s = some (.ret x', s') ∧ AccR T_Case s0 s' x' ((A ++ R).map Case.enc) ∧ nmCases true R = nmCases false suf
  | [], pre, A, x, s, i, hA, h, hi, hn, H => by
    subst hi
    rw [tree_each_Case_l0_eq]; simp only [go_sem, Nat.reduceAdd, Nat.reduceLeDiff, Nat.reduceSub, Nat.reduceMul, Nat.reduceEqDiff, Int.reduceEq, Int.reduceLT, Int.reduceLE, Int.reduceAdd, Int.reduceSub, Int.reduceNeg, Int.reduceGT, Int.reduceGE, Int.reduceNe, ne_eq, not_false_eq_true, end_facts (by simpa using h)]
    exact ⟨x, s, [], rfl, by simpa using hA, by simp only [nmCases]⟩
  | t :: suf, pre, A, x, s, i, hA, h, hi, hn, H => by
    subst hi
    obtain ⟨f1, f2, f3⟩ := step_facts hy h (by omega) (Case.cells_len t) (by decide)
    obtain ⟨t', s1, e1, g1, h1⟩ := H t (List.mem_cons_self) s
    have hlen : pre.length < L.length := by rw [← h]; simp
    obtain ⟨x1, s2, e2, g2⟩ := AccR.appendF (t := C.ti T_Case) (f := Case.enc) (B := [t']) (y := .full [t'.enc]) (hA.move g1) rfl (fun a => by rw [T_Case_size]; exact Case.cells_len a) (by decide +kernel) (by simp only [List.length_singleton]; omega) (by decide +kernel)
    obtain ⟨x', s', R, e3, g3, h3⟩ := eachCase_loop L y hy hl s0 suf (pre ++ [t]) (A ++ [t']) x1 s2 (pre.length + 1) g2 (by simpa using h) (by simp) (by simp [hn]) (fun w hw => H w (List.mem_cons_of_mem _ hw))
    refine ⟨x', s', t' :: R, ?_, by simpa using g3, by simp only [nmCases, h1, h3]⟩
    rw [tree_each_Case_l0_eq]; simp only [go_sem, Nat.reduceAdd, Nat.reduceLeDiff, Nat.reduceSub, Nat.reduceMul, Nat.reduceEqDiff, Int.reduceEq, Int.reduceLT, Int.reduceLE, Int.reduceAdd, Int.reduceSub, Int.reduceNeg, Int.reduceGT, Int.reduceGE, Int.reduceNe, ne_eq, not_false_eq_true, f1, f2, e1, e2, f3, e3]
theorem eachCase_spec (L : List Case) (v : AV) (hv : (Slot.val v).list? = some (L.map Case.enc)) (hl : L.length < 2^28) (H : ∀ t ∈ L, BareCase t) (s : St) : ∃ x s' R b, cw (.f F_tree_each_Case) [v, .fn F_tree_bareCase []] s = some (.ret x, s') ∧ Grew s s' ∧ x.cellOk = true ∧ x.av = some (encS b (R.map Case.enc)) ∧ nmCases true R = nmCases false L := by
  obtain ⟨x, s', R, e1, g1, h1⟩ := eachCase_loop L (.val v) hv hl s L [] [] (.val .nils) s 0 (AccR.nil _ s) rfl rfl rfl H
  rw [show ((0 : Nat) : Int) = 0 from rfl] at e1
  obtain ⟨b, hb⟩ := g1.av
  refine ⟨x, s', R, b, ?_, g1.grew, g1.cellOk, hb, h1⟩
  rw [tree_each_Case_eq]; simp only [go_sem, Nat.reduceAdd, Nat.reduceLeDiff, Nat.reduceSub, Nat.reduceMul, Nat.reduceEqDiff, Int.reduceEq, Int.reduceLT, Int.reduceLE, Int.reduceAdd, Int.reduceSub, Int.reduceNeg, Int.reduceGT, Int.reduceGE, Int.reduceNe, ne_eq, not_false_eq_true, hv, List.length_map, e1]

def BareDec (t : Dec) : Prop := ∀ s, ∃ t' s', cw (.f F_tree_bareDec) [t.enc] s = some (.ret (.val t'.enc), s') ∧ Grew s s' ∧ nmDec true t' = nmDec false t
theorem eachDec_loop (L : List Dec) (y : Slot) (hy : y.list? = some (L.map Dec.enc)) (hl : L.length < 2^28) (s0 : St) : ∀ (suf pre A : List Dec) (x : Slot) (s : St) (i : Nat), AccR T_Dec s0 s x (A.map Dec.enc) → pre ++ suf = L → i = pre.length → A.length = pre.length → (∀ t ∈ suf, BareDec t) →
    ∃ x' s' R, tree_each_Dec_l0 (.val (.fn F_tree_bareDec [])) x y (.val (.int .i64 L.length)) (.val (.int .i64 i)) s = some (.ret x', s') ∧ AccR T_Dec s0 s' x' ((A ++ R).map Dec.enc) ∧ nmDecs true R = nmDecs false suf
  | [], pre, A, x, s, i, hA, h, hi, hn, H => by
    subst hi
    rw [tree_each_Dec_l0_eq]; simp only [go_sem, Nat.reduceAdd, Nat.reduceLeDiff, Nat.reduceSub, Nat.reduceMul, Nat.reduceEqDiff, Int.reduceEq, Int.reduceLT, Int.reduceLE, Int.reduceAdd, Int.reduceSub, Int.reduceNeg, Int.reduceGT, Int.reduceGE, Int.reduceNe, ne_eq, not_false_eq_true, end_facts (by simpa using h)]
    exact ⟨x, s, [], rfl, by simpa using hA, by simp only [nmDecs]⟩
  | t :: suf, pre, A, x, s, i, hA, h, hi, hn, H => by
    subst hi
    obtain ⟨f1, f2, f3⟩ := step_facts hy h (by omega) (Dec.cells_len t) (by decide)
    obtain ⟨t', s1, e1, g1, h1⟩ := H t (List.mem_cons_self) s
    have hlen : pre.length < L.length := by rw [← h]; simp
    obtain ⟨x1, s2, e2, g2⟩ := AccR.appendF (t := C.ti T_Dec) (f := Dec.enc) (B := [t']) (y := .full [t'.enc]) (hA.move g1) rfl (fun a => by rw [T_Dec_size]; exact Dec.cells_len a) (by decide +kernel) (by simp only [List.length_singleton]; omega) (by decide +kernel)
    obtain ⟨x', s', R, e3, g3, h3⟩ := eachDec_loop L y hy hl s0 suf (pre ++ [t]) (A ++ [t']) x1 s2 (pre.length + 1) g2 (by simpa using h) (by simp) (by simp [hn]) (fun w hw => H w (List.mem_cons_of_mem _ hw))
    refine ⟨x', s', t' :: R, ?_, by simpa using g3, by simp only [nmDecs, h1, h3]⟩
    rw [tree_each_Dec_l0_eq]; simp only [go_sem, Nat.reduceAdd, Nat.reduceLeDiff, Nat.reduceSub, Nat.reduceMul, Nat.reduceEqDiff, Int.reduceEq, Int.reduceLT, Int.reduceLE, Int.reduceAdd, Int.reduceSub, Int.reduceNeg, Int.reduceGT, Int.reduceGE, Int.reduceNe, ne_eq, not_false_eq_true, f1, f2, e1, e2, f3, e3]
theorem eachDec_spec (L : List Dec) (v : AV) (hv : (Slot.val v).list? = some (L.map Dec.enc)) (hl : L.length < 2^28) (H : ∀ t ∈ L, BareDec t) (s : St) : ∃ x s' R b, cw (.f F_tree_each_Dec) [v, .fn F_tree_bareDec []] s = some (.ret x, s') ∧ Grew s s' ∧ x.cellOk = true ∧ x.av = some (encS b (R.map Dec.enc)) ∧ nmDecs true R = nmDecs false L := by
  obtain ⟨x, s', R, e1, g1, h1⟩ := eachDec_loop L (.val v) hv hl s L [] [] (.val .nils) s 0 (AccR.nil _ s) rfl rfl rfl H
  rw [show ((0 : Nat) : Int) = 0 from rfl] at e1
  obtain ⟨b, hb⟩ := g1.av
  refine ⟨x, s', R, b, ?_, g1.grew, g1.cellOk, hb, h1⟩
  rw [tree_each_Dec_eq]; simp only [go_sem, Nat.reduceAdd, Nat.reduceLeDiff, Nat.reduceSub, Nat.reduceMul, Nat.reduceEqDiff, Int.reduceEq, Int.reduceLT, Int.reduceLE, Int.reduceAdd, Int.reduceSub, Int.reduceNeg, Int.reduceGT, Int.reduceGE, Int.reduceNe, ne_eq, not_false_eq_true, hv, List.length_map, e1]

def BareFun (t : Fun) : Prop := ∀ s, ∃ t' s', cw (.f F_tree_bareDec_1) [t.enc] s = some (.ret (.val t'.enc), s') ∧ Grew s s' ∧ nmFun true t' = nmFun false t
theorem eachFun_loop (L : List Fun) (y : Slot) (hy : y.list? = some (L.map Fun.enc)) (hl : L.length < 2^28) (s0 : St) : ∀ (suf pre A : List Fun) (x : Slot) (s : St) (i : Nat), AccR T_Fun s0 s x (A.map Fun.enc) → pre ++ suf = L → i = pre.length → A.length = pre.length → (∀ t ∈ suf, BareFun t) →
    ∃ x' s' R, tree_each_Fun_l0 (.val (.fn F_tree_bareDec_1 [])) x y (.val (.int .i64 L.length)) (.val (.int .i64 i)) s = some (.ret x', s') ∧ AccR T_Fun s0 s' x' ((A ++ R).map Fun.enc) ∧ nmFuns true R = nmFuns false suf
  | [], pre, A, x, s, i, hA, h, hi, hn, H => by
    subst hi
    rw [tree_each_Fun_l0_eq]; simp only [go_sem, Nat.reduceAdd, Nat.reduceLeDiff, Nat.reduceSub, Nat.reduceMul, Nat.reduceEqDiff, Int.reduceEq, Int.reduceLT, Int.reduceLE, Int.reduceAdd, Int.reduceSub, Int.reduceNeg, Int.reduceGT, Int.reduceGE, Int.reduceNe, ne_eq, not_false_eq_true, end_facts (by simpa using h)]
    exact ⟨x, s, [], rfl, by simpa using hA, by simp only [nmFuns]⟩
  | t :: suf, pre, A, x, s, i, hA, h, hi, hn, H => by
    subst hi
    obtain ⟨f1, f2, f3⟩ := step_facts hy h (by omega) (Fun.cells_len t) (by decide)
    obtain ⟨t', s1, e1, g1, h1⟩ := H t (List.mem_cons_self) s
    have hlen : pre.length < L.length := by rw [← h]; simp
    obtain ⟨x1, s2, e2, g2⟩ := AccR.appendF (t := C.ti T_Fun) (f := Fun.enc) (B := [t']) (y := .full [t'.enc]) (hA.move g1) rfl (fun a => by rw [T_Fun_size]; exact Fun.cells_len a) (by decide +kernel) (by simp only [List.length_singleton]; omega) (by decide +kernel)
    obtain ⟨x', s', R, e3, g3, h3⟩ := eachFun_loop L y hy hl s0 suf (pre ++ [t]) (A ++ [t']) x1 s2 (pre.length + 1) g2 (by simpa using h) (by simp) (by simp [hn]) (fun w hw => H w (List.mem_cons_of_mem _ hw))
    refine ⟨x', s', t' :: R, ?_, by simpa using g3, by simp only [nmFuns, h1, h3]⟩
    rw [tree_each_Fun_l0_eq]; simp only [go_sem, Nat.reduceAdd, Nat.reduceLeDiff, Nat.reduceSub, Nat.reduceMul, Nat.reduceEqDiff, Int.reduceEq, Int.reduceLT, Int.reduceLE, Int.reduceAdd, Int.reduceSub, Int.reduceNeg, Int.reduceGT, Int.reduceGE, Int.reduceNe, ne_eq, not_false_eq_true, f1, f2, e1, e2, f3, e3]
theorem eachFun_spec (L : List Fun) (v : AV) (hv : (Slot.val v).list? = some (L.map Fun.enc)) (hl : L.length < 2^28) (H : ∀ t ∈ L, BareFun t) (s : St) : ∃ x s' R b, cw (.f F_tree_each_Fun) [v, .fn F_tree_bareDec_1 []] s = some (.ret x, s') ∧ Grew s s' ∧ x.cellOk = true ∧ x.av = some (encS b (R.map Fun.enc)) ∧ nmFuns true R = nmFuns false L := by
  obtain ⟨x, s', R, e1, g1, h1⟩ := eachFun_loop L (.val v) hv hl s L [] [] (.val .nils) s 0 (AccR.nil _ s) rfl rfl rfl H
  rw [show ((0 : Nat) : Int) = 0 from rfl] at e1
  obtain ⟨b, hb⟩ := g1.av
  refine ⟨x, s', R, b, ?_, g1.grew, g1.cellOk, hb, h1⟩
  rw [tree_each_Fun_eq]; simp only [go_sem, Nat.reduceAdd, Nat.reduceLeDiff, Nat.reduceSub, Nat.reduceMul, Nat.reduceEqDiff, Int.reduceEq, Int.reduceLT, Int.reduceLE, Int.reduceAdd, Int.reduceSub, Int.reduceNeg, Int.reduceGT, Int.reduceGE, Int.reduceNe, ne_eq, not_false_eq_true, hv, List.length_map, e1]

theorem bareTy_spec : ∀ (m : Nat) (t : Ty), t.size ≤ m → t.size < 2^26 → BareTy t
  | 0, .mk _ _ _ _ _, h, _ => by simp only [Ty.size] at h; omega
  | m + 1, .mk k n nm l nl, h, h' => fun s => by
    simp only [Ty.size] at h h'
    have hl := Ty.len_sizes l
    obtain ⟨x, s1, R, b, e1, g1, c1, a1, h1⟩ := eachTy_spec l (encS nl (l.map Ty.enc)) (by simp only [go_sem, Nat.reduceAdd, Nat.reduceLeDiff, Nat.reduceSub, Nat.reduceMul, Nat.reduceEqDiff, Int.reduceEq, Int.reduceLT, Int.reduceLE, Int.reduceAdd, Int.reduceSub, Int.reduceNeg, Int.reduceGT, Int.reduceGE, Int.reduceNe, ne_eq, not_false_eq_true]) (by omega) (fun t ht => by have := Ty.mem_sizes ht; exact bareTy_spec m t (by omega) (by omega)) s
    refine ⟨.mk k n nm R b, s1, ?_, g1, by simp only [nmTy, h1]⟩
    rw [tree_bareTy_eq]; simp only [go_sem, Nat.reduceAdd, Nat.reduceLeDiff, Nat.reduceSub, Nat.reduceMul, Nat.reduceEqDiff, Int.reduceEq, Int.reduceLT, Int.reduceLE, Int.reduceAdd, Int.reduceSub, Int.reduceNeg, Int.reduceGT, Int.reduceGE, Int.reduceNe, ne_eq, not_false_eq_true, Ty.enc, e1, c1, avs_cons a1]

theorem barePat_spec : ∀ (m : Nat) (t : Pat), t.size ≤ m → t.size < 2^26 → BarePat t
  | 0, .mk _ _ _ _ _ _, h, _ => by simp only [Pat.size] at h; omega
  | m + 1, .mk k a nm n l nl, h, h' => fun s => by
    simp only [Pat.size] at h h'
    have hl := Pat.len_sizes l
    obtain ⟨x, s1, R, b, e1, g1, c1, a1, h1⟩ := eachPat_spec l (encS nl (l.map Pat.enc)) (by simp only [go_sem, Nat.reduceAdd, Nat.reduceLeDiff, Nat.reduceSub, Nat.reduceMul, Nat.reduceEqDiff, Int.reduceEq, Int.reduceLT, Int.reduceLE, Int.reduceAdd, Int.reduceSub, Int.reduceNeg, Int.reduceGT, Int.reduceGE, Int.reduceNe, ne_eq, not_false_eq_true]) (by omega) (fun t ht => by have := Pat.mem_sizes ht; exact barePat_spec m t (by omega) (by omega)) s
    refine ⟨.mk k 0 nm n R b, s1, ?_, g1, by simp only [nmPat, h1, nmAt, cond_true, cond_false]⟩
    rw [tree_barePat_eq]; simp only [go_sem, Nat.reduceAdd, Nat.reduceLeDiff, Nat.reduceSub, Nat.reduceMul, Nat.reduceEqDiff, Int.reduceEq, Int.reduceLT, Int.reduceLE, Int.reduceAdd, Int.reduceSub, Int.reduceNeg, Int.reduceGT, Int.reduceGE, Int.reduceNe, ne_eq, not_false_eq_true, Pat.enc, e1, c1, avs_cons a1]

theorem bareCon_spec (t : Con) (h : t.size < 2^26) : BareCon t := fun s => by
  obtain ⟨nm, a, hs, ty⟩ := t
  simp only [Con.size] at h
  obtain ⟨ty', s1, e1, g1, h1⟩ := bareTy_spec ty.size ty (Nat.le_refl _) (by omega) s
  refine ⟨⟨nm, 0, hs, ty'⟩, s1, ?_, g1, by simp only [nmCon, h1, nmAt, cond_true, cond_false]⟩
  rw [tree_bareDec_2_eq]; simp only [go_sem, Nat.reduceAdd, Nat.reduceLeDiff, Nat.reduceSub, Nat.reduceMul, Nat.reduceEqDiff, Int.reduceEq, Int.reduceLT, Int.reduceLE, Int.reduceAdd, Int.reduceSub, Int.reduceNeg, Int.reduceGT, Int.reduceGE, Int.reduceNe, ne_eq, not_false_eq_true, Con.enc, Con.cells, e1]

theorem bare_all : ∀ m : Nat, (∀ e : Exp, e.size ≤ m → e.size < 2^26 → BareExp e) ∧ (∀ c : Case, c.size ≤ m → c.size < 2^26 → BareCase c) ∧ (∀ d : Dec, d.size ≤ m → d.size < 2^26 → BareDec d) := by
  intro m
  induction m with
  | zero =>
    refine ⟨fun e h _ => ?_, fun c h _ => ?_, fun d h _ => ?_⟩
    · obtain ⟨k, a, nm, n, l, lb, c, cb, d, db⟩ := e
      simp only [Exp.size] at h; omega
    · obtain ⟨p, e⟩ := c; simp only [Case.size] at h; omega
    · obtain ⟨k, a, nm, p, l, nb, c, cb, f, fb⟩ := d; simp only [Dec.size] at h; omega
  | succ m ih =>
    obtain ⟨ihE, ihC, ihD⟩ := ih
    refine ⟨fun e h h' s => ?_, fun c h h' s => ?_, fun d h h' s => ?_⟩
    · obtain ⟨k, a, nm, n, l, lb, c, cb, d, db⟩ := e
      simp only [Exp.size] at h h'
      have h1 := Exp.len_sizes l
      have h2 := Case.len_sizes c
      have h3 := Dec.len_sizes d
      obtain ⟨x1, s1, R1, b1, e1, g1, c1, a1, n1⟩ := eachExp_spec l (encS lb (l.map Exp.enc)) (by simp only [go_sem, Nat.reduceAdd, Nat.reduceLeDiff, Nat.reduceSub, Nat.reduceMul, Nat.reduceEqDiff, Int.reduceEq, Int.reduceLT, Int.reduceLE, Int.reduceAdd, Int.reduceSub, Int.reduceNeg, Int.reduceGT, Int.reduceGE, Int.reduceNe, ne_eq, not_false_eq_true]) (by omega) (fun t ht => by have := Exp.mem_sizes ht; exact ihE t (by omega) (by omega)) s
      obtain ⟨x2, s2, R2, b2, e2, g2, c2, a2, n2⟩ := eachCase_spec c (encS cb (c.map Case.enc)) (by simp only [go_sem, Nat.reduceAdd, Nat.reduceLeDiff, Nat.reduceSub, Nat.reduceMul, Nat.reduceEqDiff, Int.reduceEq, Int.reduceLT, Int.reduceLE, Int.reduceAdd, Int.reduceSub, Int.reduceNeg, Int.reduceGT, Int.reduceGE, Int.reduceNe, ne_eq, not_false_eq_true]) (by omega) (fun t ht => by have := Case.mem_sizes ht; exact ihC t (by omega) (by omega)) s1
      obtain ⟨x3, s3, R3, b3, e3, g3, c3, a3, n3⟩ := eachDec_spec d (encS db (d.map Dec.enc)) (by simp only [go_sem, Nat.reduceAdd, Nat.reduceLeDiff, Nat.reduceSub, Nat.reduceMul, Nat.reduceEqDiff, Int.reduceEq, Int.reduceLT, Int.reduceLE, Int.reduceAdd, Int.reduceSub, Int.reduceNeg, Int.reduceGT, Int.reduceGE, Int.reduceNe, ne_eq, not_false_eq_true]) (by omega) (fun t ht => by have := Dec.mem_sizes ht; exact ihD t (by omega) (by omega)) s2
      refine ⟨.mk k 0 nm n R1 b1 R2 b2 R3 b3, s3, ?_, (g1.trans g2).trans g3, by simp only [nmExp, n1, n2, n3, nmAt, cond_true, cond_false]⟩
      rw [tree_bareExp_eq]; simp only [go_sem, Nat.reduceAdd, Nat.reduceLeDiff, Nat.reduceSub, Nat.reduceMul, Nat.reduceEqDiff, Int.reduceEq, Int.reduceLT, Int.reduceLE, Int.reduceAdd, Int.reduceSub, Int.reduceNeg, Int.reduceGT, Int.reduceGE, Int.reduceNe, ne_eq, not_false_eq_true, Exp.enc, e1, e2, e3, c1, c2, c3, avs_cons a1, avs_cons a2, avs_cons a3]
    · obtain ⟨p, e⟩ := c
      simp only [Case.size] at h h'
      obtain ⟨p', s1, e1, g1, n1⟩ := barePat_spec p.size p (Nat.le_refl _) (by omega) s
      obtain ⟨e', s2, e2, g2, n2⟩ := ihE e (by omega) (by omega) s1
      refine ⟨.mk p' e', s2, ?_, g1.trans g2, by simp only [nmCase, n1, n2]⟩
      rw [tree_bareCase_eq]; simp only [go_sem, Nat.reduceAdd, Nat.reduceLeDiff, Nat.reduceSub, Nat.reduceMul, Nat.reduceEqDiff, Int.reduceEq, Int.reduceLT, Int.reduceLE, Int.reduceAdd, Int.reduceSub, Int.reduceNeg, Int.reduceGT, Int.reduceGE, Int.reduceNe, ne_eq, not_false_eq_true, Case.enc, e1, e2]
      rw [← List.map_append, avs_map_val, aggO_some (by simp only [go_sem, Nat.reduceAdd, Nat.reduceLeDiff, Nat.reduceSub, Nat.reduceMul, Nat.reduceEqDiff, Int.reduceEq, Int.reduceLT, Int.reduceLE, Int.reduceAdd, Int.reduceSub, Int.reduceNeg, Int.reduceGT, Int.reduceGE, Int.reduceNe, ne_eq, not_false_eq_true])]
      rfl
    · obtain ⟨k, a, nm, p, l, nb, c, cb, f, fb⟩ := d
      simp only [Dec.size] at h h'
      have h1 := Con.len_sizes l
      have h2 := Case.len_sizes c
      have h3 := Fun.len_sizes f
      obtain ⟨x1, s1, R1, b1, e1, g1, c1, a1, n1⟩ := eachCase_spec c (encS cb (c.map Case.enc)) (by simp only [go_sem, Nat.reduceAdd, Nat.reduceLeDiff, Nat.reduceSub, Nat.reduceMul, Nat.reduceEqDiff, Int.reduceEq, Int.reduceLT, Int.reduceLE, Int.reduceAdd, Int.reduceSub, Int.reduceNeg, Int.reduceGT, Int.reduceGE, Int.reduceNe, ne_eq, not_false_eq_true]) (by omega) (fun t ht => by have := Case.mem_sizes ht; exact ihC t (by omega) (by omega)) s
      obtain ⟨x2, s2, R2, b2, e2, g2, c2, a2, n2⟩ := eachFun_spec f (encS fb (f.map Fun.enc)) (by simp only [go_sem, Nat.reduceAdd, Nat.reduceLeDiff, Nat.reduceSub, Nat.reduceMul, Nat.reduceEqDiff, Int.reduceEq, Int.reduceLT, Int.reduceLE, Int.reduceAdd, Int.reduceSub, Int.reduceNeg, Int.reduceGT, Int.reduceGE, Int.reduceNe, ne_eq, not_false_eq_true]) (by omega) (fun t ht => by
        have := Fun.mem_sizes ht
        intro s
        obtain ⟨fn, fa, fc⟩ := t
        simp only [Fun.size] at this
        obtain ⟨c', s1, e1, g1, n1⟩ := ihC fc (by omega) (by omega) s
        refine ⟨.mk fn 0 c', s1, ?_, g1, by simp only [nmFun, n1, nmAt, cond_true, cond_false]⟩
        rw [tree_bareDec_1_eq]; simp only [go_sem, Nat.reduceAdd, Nat.reduceLeDiff, Nat.reduceSub, Nat.reduceMul, Nat.reduceEqDiff, Int.reduceEq, Int.reduceLT, Int.reduceLE, Int.reduceAdd, Int.reduceSub, Int.reduceNeg, Int.reduceGT, Int.reduceGE, Int.reduceNe, ne_eq, not_false_eq_true, Fun.enc, e1]) s1
      obtain ⟨x3, s3, R3, b3, e3, g3, c3, a3, n3⟩ := eachCon_spec l (encS nb (l.map Con.enc)) (by simp only [go_sem, Nat.reduceAdd, Nat.reduceLeDiff, Nat.reduceSub, Nat.reduceMul, Nat.reduceEqDiff, Int.reduceEq, Int.reduceLT, Int.reduceLE, Int.reduceAdd, Int.reduceSub, Int.reduceNeg, Int.reduceGT, Int.reduceGE, Int.reduceNe, ne_eq, not_false_eq_true]) (by omega) (fun t ht => by have := Con.mem_sizes ht; exact bareCon_spec t (by omega)) s2
      refine ⟨.mk k 0 nm p R3 b3 R1 b1 R2 b2, s3, ?_, (g1.trans g2).trans g3, by simp only [nmDec, n1, n2, n3, nmAt, cond_true, cond_false]⟩
      rw [tree_bareDec_eq]; simp only [go_sem, Nat.reduceAdd, Nat.reduceLeDiff, Nat.reduceSub, Nat.reduceMul, Nat.reduceEqDiff, Int.reduceEq, Int.reduceLT, Int.reduceLE, Int.reduceAdd, Int.reduceSub, Int.reduceNeg, Int.reduceGT, Int.reduceGE, Int.reduceNe, ne_eq, not_false_eq_true, Dec.enc, e1, e2, e3, c1, c2, c3, avs_cons a1, avs_cons a2, avs_cons a3]

/-- tree.Bare -/
theorem tree_Bare_spec (L : List Dec) (nl : Bool) (s : St) (h : Dec.sizes L < 2^26) : ∃ x s' R b, cw (.f F_tree_Bare) [encS nl (L.map Dec.enc)] s = some (.ret x, s') ∧ Grew s s' ∧ x.cellOk = true ∧ x.av = some (encS b (R.map Dec.enc)) ∧ nmDecs true R = nmDecs false L := by
  have h1 := Dec.len_sizes L
  obtain ⟨x, s1, R, b, e1, g1, c1, a1, n1⟩ := eachDec_spec L (encS nl (L.map Dec.enc)) (by simp only [go_sem, Nat.reduceAdd, Nat.reduceLeDiff, Nat.reduceSub, Nat.reduceMul, Nat.reduceEqDiff, Int.reduceEq, Int.reduceLT, Int.reduceLE, Int.reduceAdd, Int.reduceSub, Int.reduceNeg, Int.reduceGT, Int.reduceGE, Int.reduceNe, ne_eq, not_false_eq_true]) (by omega) (fun t ht => by have := Dec.mem_sizes ht; exact (bare_all t.size).2.2 t (Nat.le_refl _) (by omega)) s
  refine ⟨x, s1, R, b, ?_, g1, c1, a1, n1⟩
  rw [tree_Bare_eq]; simp only [go_sem, Nat.reduceAdd, Nat.reduceLeDiff, Nat.reduceSub, Nat.reduceMul, Nat.reduceEqDiff, Int.reduceEq, Int.reduceLT, Int.reduceLE, Int.reduceAdd, Int.reduceSub, Int.reduceNeg, Int.reduceGT, Int.reduceGE, Int.reduceNe, ne_eq, not_false_eq_true, e1]

end Go.Proofs.Ytemfpnlpnmglfaa
