/- The document's way for a tree without its places. -/
import Derived.Test.YtemfpnlpnmglfaaPBare
import Derived.Test.YtemfpnlpnmglfaaG
set_option linter.unusedVariables false
set_option linter.unusedSimpArgs false
namespace Go.Proofs.Ytemfpnlpnmglfaa
open Go Go.Am
set_option maxRecDepth 4000

def RCopyTy (t : Ty) : Prop := ∀ s, ∃ t' s', cw (.f F_ref05_CopyTy) [t.enc] s = some (.ret (.val t'.enc), s') ∧ Grew s s' ∧ nmTy t' = nmTy t
theorem copyTy_loop (t : Ty) (hl : t.args.length < 2^28) (s0 : St) (z1 z2 z3 z4 : Slot) : ∀ (suf pre A : List Ty) (x : Slot) (s : St) (i : Nat), AccR T_Ty s0 s x (A.map Ty.enc) → pre ++ suf = t.args → i = pre.length → A.length = pre.length → (∀ t ∈ suf, RCopyTy t) →
    ∃ s' R b, ref05_CopyTy_l0 (t.cells.map .val) [z1, z2, z3, z4] [.val (.int .i64 t.kind), .val (.int .i64 t.n), .val (.str t.name), x] (.val (.int .i64 i)) s = some (.ret (.val (Ty.mk t.kind t.n t.name (A ++ R) b).enc), s') ∧ Grew s0 s' ∧ nmTys R = nmTys suf
  | [], pre, A, x, s, i, hA, h, hi, hn, H => by
    subst hi
    obtain ⟨b, hb⟩ := hA.av
    refine ⟨s, [], b, ?_, hA.grew, by simp only [nmTys]⟩
    rw [ref05_CopyTy_l0_eq]; simp only [go_sem, Nat.reduceAdd, Nat.reduceLeDiff, Nat.reduceSub, Nat.reduceMul, Nat.reduceEqDiff, Int.reduceEq, Int.reduceLT, Int.reduceLE, Int.reduceAdd, Int.reduceSub, Int.reduceNeg, Int.reduceGT, Int.reduceGE, Int.reduceNe, ne_eq, not_false_eq_true, Ty.cells_eq, end_facts (by simpa using h), avs_cons hb, Ty.enc, List.append_nil]
    rfl
  | u :: suf, pre, A, x, s, i, hA, h, hi, hn, H => by
    subst hi
    obtain ⟨f1, f2, f3⟩ := step_facts (x := .val (encS t.nl (t.args.map Ty.enc))) (list?_encS _ _) h (by omega) (Ty.cells_len u) (by decide)
    obtain ⟨u', s1, e1, g1, h1⟩ := H u (List.mem_cons_self) s
    have hlen : pre.length < t.args.length := by rw [← h]; simp
    obtain ⟨x1, s2, e2, g2⟩ := AccR.appendF (t := C.ti T_Ty) (f := Ty.enc) (B := [u']) (y := .full [u'.enc]) (hA.move g1) rfl (fun a => by rw [T_Ty_size]; exact Ty.cells_len a) (by decide +kernel) (by simp only [List.length_singleton]; omega) (by decide +kernel)
    obtain ⟨s', R, b, e3, g3, h3⟩ := copyTy_loop t hl s0 z1 z2 z3 z4 suf (pre ++ [u]) (A ++ [u']) x1 s2 (pre.length + 1) g2 (by simpa using h) (by simp) (by simp [hn]) (fun w hw => H w (List.mem_cons_of_mem _ hw))
    refine ⟨s', u' :: R, b, ?_, g3, by simp only [nmTys, h1, h3]⟩
    rw [List.append_assoc] at e3
    rw [ref05_CopyTy_l0_eq]; rw [Ty.cells_eq] at e3 ⊢
    have c1 := g2.cellOk
    simp only [go_sem, Nat.reduceAdd, Nat.reduceLeDiff, Nat.reduceSub, Nat.reduceMul, Nat.reduceEqDiff, Int.reduceEq, Int.reduceLT, Int.reduceLE, Int.reduceAdd, Int.reduceSub, Int.reduceNeg, Int.reduceGT, Int.reduceGE, Int.reduceNe, ne_eq, not_false_eq_true] at e3
    simp only [go_sem, Nat.reduceAdd, Nat.reduceLeDiff, Nat.reduceSub, Nat.reduceMul, Nat.reduceEqDiff, Int.reduceEq, Int.reduceLT, Int.reduceLE, Int.reduceAdd, Int.reduceSub, Int.reduceNeg, Int.reduceGT, Int.reduceGE, Int.reduceNe, ne_eq, not_false_eq_true, f1, f2, e1, e2, f3, c1, e3]
theorem copyTy_spec : ∀ (m : Nat) (t : Ty), t.size ≤ m → t.size < 2^26 → RCopyTy t
  | 0, .mk _ _ _ _ _, h, _ => by simp only [Ty.size] at h; omega
  | m + 1, .mk k n nm l nl, h, h' => fun s => by
    simp only [Ty.size] at h h'
    have hl := Ty.len_sizes l
    obtain ⟨s1, R, b, e1, g1, h1⟩ := copyTy_loop (.mk k n nm l nl) (by simp only [Ty.args]; omega) s (.val (.int .i64 0)) (.val (.int .i64 0)) (.val (.str [])) (.val .nils) l [] [] (.val .nils) s 0 (AccR.nil _ s) rfl rfl rfl (fun t ht => by have := Ty.mem_sizes ht; exact copyTy_spec m t (by omega) (by omega))
    refine ⟨.mk k n nm R b, s1, ?_, g1, by simp only [nmTy, h1]⟩
    rw [ref05_CopyTy_eq]
    rw [show ((0 : Nat) : Int) = 0 from rfl] at e1
    simp only [go_sem, Nat.reduceAdd, Nat.reduceLeDiff, Nat.reduceSub, Nat.reduceMul, Nat.reduceEqDiff, Int.reduceEq, Int.reduceLT, Int.reduceLE, Int.reduceAdd, Int.reduceSub, Int.reduceNeg, Int.reduceGT, Int.reduceGE, Int.reduceNe, ne_eq, not_false_eq_true, Ty.kind, Ty.n, Ty.name] at e1
    simp only [go_sem, Nat.reduceAdd, Nat.reduceLeDiff, Nat.reduceSub, Nat.reduceMul, Nat.reduceEqDiff, Int.reduceEq, Int.reduceLT, Int.reduceLE, Int.reduceAdd, Int.reduceSub, Int.reduceNeg, Int.reduceGT, Int.reduceGE, Int.reduceNe, ne_eq, not_false_eq_true, Ty.enc, e1]

def RBarePat (t : Pat) : Prop := ∀ s, ∃ t' s', cw (.f F_ref05_barePat) [t.enc] s = some (.ret (.val t'.enc), s') ∧ Grew s s' ∧ nmPat true t' = nmPat false t
theorem rbarePat_loop (t : Pat) (hl : t.kids.length < 2^28) (s0 : St) (z1 z2 z3 z4 z5 : Slot) : ∀ (suf pre A : List Pat) (x : Slot) (s : St) (i : Nat), AccR T_Pat s0 s x (A.map Pat.enc) → pre ++ suf = t.kids → i = pre.length → A.length = pre.length → (∀ t ∈ suf, RBarePat t) →
    ∃ s' R b, ref05_barePat_l0 (t.cells.map .val) [z1, z2, z3, z4, z5] [.val (.int .i64 t.kind), .val (.int .i64 0), .val (.str t.name), .val (.int .i64 t.n), x] (.val (.int .i64 i)) s = some (.ret (.val (Pat.mk t.kind 0 t.name t.n (A ++ R) b).enc), s') ∧ Grew s0 s' ∧ nmPats true R = nmPats false suf
  | [], pre, A, x, s, i, hA, h, hi, hn, H => by
    subst hi
    obtain ⟨b, hb⟩ := hA.av
    refine ⟨s, [], b, ?_, hA.grew, by simp only [nmPats]⟩
    rw [ref05_barePat_l0_eq]; simp only [go_sem, Nat.reduceAdd, Nat.reduceLeDiff, Nat.reduceSub, Nat.reduceMul, Nat.reduceEqDiff, Int.reduceEq, Int.reduceLT, Int.reduceLE, Int.reduceAdd, Int.reduceSub, Int.reduceNeg, Int.reduceGT, Int.reduceGE, Int.reduceNe, ne_eq, not_false_eq_true, Pat.cells_eq, end_facts (by simpa using h), avs_cons hb, Pat.enc, List.append_nil]
    rfl
  | u :: suf, pre, A, x, s, i, hA, h, hi, hn, H => by
    subst hi
    obtain ⟨f1, f2, f3⟩ := step_facts (x := .val (encS t.kb (t.kids.map Pat.enc))) (list?_encS _ _) h (by omega) (Pat.cells_len u) (by decide)
    obtain ⟨u', s1, e1, g1, h1⟩ := H u (List.mem_cons_self) s
    have hlen : pre.length < t.kids.length := by rw [← h]; simp
    obtain ⟨x1, s2, e2, g2⟩ := AccR.appendF (t := C.ti T_Pat) (f := Pat.enc) (B := [u']) (y := .full [u'.enc]) (hA.move g1) rfl (fun a => by rw [T_Pat_size]; exact Pat.cells_len a) (by decide +kernel) (by simp only [List.length_singleton]; omega) (by decide +kernel)
    obtain ⟨s', R, b, e3, g3, h3⟩ := rbarePat_loop t hl s0 z1 z2 z3 z4 z5 suf (pre ++ [u]) (A ++ [u']) x1 s2 (pre.length + 1) g2 (by simpa using h) (by simp) (by simp [hn]) (fun w hw => H w (List.mem_cons_of_mem _ hw))
    refine ⟨s', u' :: R, b, ?_, g3, by simp only [nmPats, h1, h3]⟩
    rw [List.append_assoc] at e3
    rw [ref05_barePat_l0_eq]; rw [Pat.cells_eq] at e3 ⊢
    have c1 := g2.cellOk
    simp only [go_sem, Nat.reduceAdd, Nat.reduceLeDiff, Nat.reduceSub, Nat.reduceMul, Nat.reduceEqDiff, Int.reduceEq, Int.reduceLT, Int.reduceLE, Int.reduceAdd, Int.reduceSub, Int.reduceNeg, Int.reduceGT, Int.reduceGE, Int.reduceNe, ne_eq, not_false_eq_true] at e3
    simp only [go_sem, Nat.reduceAdd, Nat.reduceLeDiff, Nat.reduceSub, Nat.reduceMul, Nat.reduceEqDiff, Int.reduceEq, Int.reduceLT, Int.reduceLE, Int.reduceAdd, Int.reduceSub, Int.reduceNeg, Int.reduceGT, Int.reduceGE, Int.reduceNe, ne_eq, not_false_eq_true, f1, f2, e1, e2, f3, c1, e3]
theorem rbarePat_spec : ∀ (m : Nat) (t : Pat), t.size ≤ m → t.size < 2^26 → RBarePat t
  | 0, .mk _ _ _ _ _ _, h, _ => by simp only [Pat.size] at h; omega
  | m + 1, .mk k a nm n l nl, h, h' => fun s => by
    simp only [Pat.size] at h h'
    have hl := Pat.len_sizes l
    obtain ⟨s1, R, b, e1, g1, h1⟩ := rbarePat_loop (.mk k a nm n l nl) (by simp only [Pat.kids]; omega) s (.val (.int .i64 0)) (.val (.int .i64 0)) (.val (.str [])) (.val (.int .i64 0)) (.val .nils) l [] [] (.val .nils) s 0 (AccR.nil _ s) rfl rfl rfl (fun t ht => by have := Pat.mem_sizes ht; exact rbarePat_spec m t (by omega) (by omega))
    refine ⟨.mk k 0 nm n R b, s1, ?_, g1, by simp only [nmPat, h1, nmAt, cond_true, cond_false]⟩
    rw [ref05_barePat_eq]
    rw [show ((0 : Nat) : Int) = 0 from rfl] at e1
    simp only [go_sem, Nat.reduceAdd, Nat.reduceLeDiff, Nat.reduceSub, Nat.reduceMul, Nat.reduceEqDiff, Int.reduceEq, Int.reduceLT, Int.reduceLE, Int.reduceAdd, Int.reduceSub, Int.reduceNeg, Int.reduceGT, Int.reduceGE, Int.reduceNe, ne_eq, not_false_eq_true, Pat.kind, Pat.n, Pat.name] at e1
    simp only [go_sem, Nat.reduceAdd, Nat.reduceLeDiff, Nat.reduceSub, Nat.reduceMul, Nat.reduceEqDiff, Int.reduceEq, Int.reduceLT, Int.reduceLE, Int.reduceAdd, Int.reduceSub, Int.reduceNeg, Int.reduceGT, Int.reduceGE, Int.reduceNe, ne_eq, not_false_eq_true, Pat.enc, e1]

def RBareExp (t : Exp) : Prop := ∀ s, ∃ t' s', cw (.f F_ref05_BareExp) [t.enc] s = some (.ret (.val t'.enc), s') ∧ Grew s s' ∧ nmExp true t' = nmExp false t
def RBareCase (t : Case) : Prop := ∀ s, ∃ t' s', cw (.f F_ref05_bareCase) [t.enc] s = some (.ret (.val t'.enc), s') ∧ Grew s s' ∧ nmCase true t' = nmCase false t
def RBareDecs (L : List Dec) : Prop := ∀ (nl : Bool) s, ∃ x s' R b, cw (.f F_ref05_Bare) [encS nl (L.map Dec.enc)] s = some (.ret x, s') ∧ Grew s s' ∧ x.cellOk = true ∧ x.av = some (encS b (R.map Dec.enc)) ∧ nmDecs true R = nmDecs false L

theorem rbareExp_l0 (t : Exp) (hl : t.kids.length < 2^28) (s0 : St) (zs : List Slot) (z1 z2 z3 z4 z5 z6 : Slot) : ∀ (suf pre A : List Exp) (x : Slot) (s : St) (i : Nat), AccR T_Exp s0 s x (A.map Exp.enc) → pre ++ suf = t.kids → i = pre.length → A.length = pre.length → (∀ t ∈ suf, RBareExp t) →
    ∃ x' s' R, ref05_BareExp_l0 (t.cells.map .val) zs [z1, z2, z3, z4, x, z5, z6] (.val (.int .i64 i)) s = ref05_BareExp_l0 (t.cells.map .val) zs [z1, z2, z3, z4, x', z5, z6] (.val (.int .i64 t.kids.length)) s' ∧ AccR T_Exp s0 s' x' ((A ++ R).map Exp.enc) ∧ nmExps true R = nmExps false suf
  | [], pre, A, x, s, i, hA, h, hi, hn, H => by
    have : i = t.kids.length := by rw [hi, ← h]; simp
    subst this
    exact ⟨x, s, [], rfl, by simpa using hA, by simp only [nmExps]⟩
  | u :: suf, pre, A, x, s, i, hA, h, hi, hn, H => by
    subst hi
    obtain ⟨f1, f2, f3⟩ := step_facts (x := .val (encS t.kb (t.kids.map Exp.enc))) (list?_encS _ _) h (by omega) (Exp.cells_len u) (by decide)
    obtain ⟨u', s1, e1, g1, h1⟩ := H u (List.mem_cons_self) s
    have hlen : pre.length < t.kids.length := by rw [← h]; simp
    obtain ⟨x1, s2, e2, g2⟩ := AccR.appendF (t := C.ti T_Exp) (f := Exp.enc) (B := [u']) (y := .full [u'.enc]) (hA.move g1) rfl (fun a => by rw [T_Exp_size]; exact Exp.cells_len a) (by decide +kernel) (by simp only [List.length_singleton]; omega) (by decide +kernel)
    obtain ⟨x', s', R, e3, g3, h3⟩ := rbareExp_l0 t hl s0 zs z1 z2 z3 z4 z5 z6 suf (pre ++ [u]) (A ++ [u']) x1 s2 (pre.length + 1) g2 (by simpa using h) (by simp) (by simp [hn]) (fun w hw => H w (List.mem_cons_of_mem _ hw))
    refine ⟨x', s', u' :: R, ?_, by simpa using g3, by simp only [nmExps, h1, h3]⟩
    rw [← e3, ref05_BareExp_l0_eq]
    have c1 := g2.cellOk
    rw [Exp.cells_eq]
    simp only [go_sem, Nat.reduceAdd, Nat.reduceLeDiff, Nat.reduceSub, Nat.reduceMul, Nat.reduceEqDiff, Int.reduceEq, Int.reduceLT, Int.reduceLE, Int.reduceAdd, Int.reduceSub, Int.reduceNeg, Int.reduceGT, Int.reduceGE, Int.reduceNe, ne_eq, not_false_eq_true] at e1 f2
    simp only [go_sem, Nat.reduceAdd, Nat.reduceLeDiff, Nat.reduceSub, Nat.reduceMul, Nat.reduceEqDiff, Int.reduceEq, Int.reduceLT, Int.reduceLE, Int.reduceAdd, Int.reduceSub, Int.reduceNeg, Int.reduceGT, Int.reduceGE, Int.reduceNe, ne_eq, not_false_eq_true, f1, f2, e1, e2, f3, c1]

theorem rbareExp_l1 (t : Exp) (hl : t.cases.length < 2^28) (s0 : St) (zs : List Slot) (z1 z2 z3 z4 z5 z6 : Slot) : ∀ (suf pre A : List Case) (x : Slot) (s : St) (i : Nat), AccR T_Case s0 s x (A.map Case.enc) → pre ++ suf = t.cases → i = pre.length → A.length = pre.length → (∀ t ∈ suf, RBareCase t) →
    ∃ x' s' R, ref05_BareExp_l1 (t.cells.map .val) zs [z1, z2, z3, z4, z5, x, z6] (.val (.int .i64 i)) s = ref05_BareExp_l1 (t.cells.map .val) zs [z1, z2, z3, z4, z5, x', z6] (.val (.int .i64 t.cases.length)) s' ∧ AccR T_Case s0 s' x' ((A ++ R).map Case.enc) ∧ nmCases true R = nmCases false suf
  | [], pre, A, x, s, i, hA, h, hi, hn, H => by
    have : i = t.cases.length := by rw [hi, ← h]; simp
    subst this
    exact ⟨x, s, [], rfl, by simpa using hA, by simp only [nmCases]⟩
  | u :: suf, pre, A, x, s, i, hA, h, hi, hn, H => by
    subst hi
    obtain ⟨f1, f2, f3⟩ := step_facts (x := .val (encS t.cb (t.cases.map Case.enc))) (list?_encS _ _) h (by omega) (Case.cells_len u) (by decide)
    obtain ⟨u', s1, e1, g1, h1⟩ := H u (List.mem_cons_self) s
    have hlen : pre.length < t.cases.length := by rw [← h]; simp
    obtain ⟨x1, s2, e2, g2⟩ := AccR.appendF (t := C.ti T_Case) (f := Case.enc) (B := [u']) (y := .full [u'.enc]) (hA.move g1) rfl (fun a => by rw [T_Case_size]; exact Case.cells_len a) (by decide +kernel) (by simp only [List.length_singleton]; omega) (by decide +kernel)
    obtain ⟨x', s', R, e3, g3, h3⟩ := rbareExp_l1 t hl s0 zs z1 z2 z3 z4 z5 z6 suf (pre ++ [u]) (A ++ [u']) x1 s2 (pre.length + 1) g2 (by simpa using h) (by simp) (by simp [hn]) (fun w hw => H w (List.mem_cons_of_mem _ hw))
    refine ⟨x', s', u' :: R, ?_, by simpa using g3, by simp only [nmCases, h1, h3]⟩
    rw [← e3, ref05_BareExp_l1_eq]
    have c1 := g2.cellOk
    rw [Exp.cells_eq]
    simp only [go_sem, Nat.reduceAdd, Nat.reduceLeDiff, Nat.reduceSub, Nat.reduceMul, Nat.reduceEqDiff, Int.reduceEq, Int.reduceLT, Int.reduceLE, Int.reduceAdd, Int.reduceSub, Int.reduceNeg, Int.reduceGT, Int.reduceGE, Int.reduceNe, ne_eq, not_false_eq_true] at e1 f2
    simp only [go_sem, Nat.reduceAdd, Nat.reduceLeDiff, Nat.reduceSub, Nat.reduceMul, Nat.reduceEqDiff, Int.reduceEq, Int.reduceLT, Int.reduceLE, Int.reduceAdd, Int.reduceSub, Int.reduceNeg, Int.reduceGT, Int.reduceGE, Int.reduceNe, ne_eq, not_false_eq_true, f1, f2, e1, e2, f3, c1]

theorem rbareDec_l1 (t : Dec) (hl : t.cons.length < 2^28) (s0 : St) (y0 y3 y4 : Slot) (z1 z2 z3 z4 z5 z6 : Slot) : ∀ (suf pre A : List Con) (x : Slot) (s : St) (i : Nat), AccR T_Con s0 s x (A.map Con.enc) → pre ++ suf = t.cons → i = pre.length → A.length = pre.length → (∀ t ∈ suf, RCopyTy t.arg) →
    ∃ x' s' R, ref05_Bare_l1 y0 y3 y4 (t.cells.map .val) [z1, z2, z3, z4, x, z5, z6] (.val (.int .i64 i)) s = ref05_Bare_l1 y0 y3 y4 (t.cells.map .val) [z1, z2, z3, z4, x', z5, z6] (.val (.int .i64 t.cons.length)) s' ∧ AccR T_Con s0 s' x' ((A ++ R).map Con.enc) ∧ nmCons true R = nmCons false suf
  | [], pre, A, x, s, i, hA, h, hi, hn, H => by
    have : i = t.cons.length := by rw [hi, ← h]; simp
    subst this
    exact ⟨x, s, [], rfl, by simpa using hA, by simp only [nmCons]⟩
  | ⟨un, ua, uh, ut⟩ :: suf, pre, A, x, s, i, hA, h, hi, hn, H => by
    subst hi
    obtain ⟨f1, f2, f3⟩ := step_facts (x := .val (encS t.nb (t.cons.map Con.enc))) (list?_encS _ _) h (by omega) (Con.cells_len (⟨un, ua, uh, ut⟩)) (by decide)
    obtain ⟨ut', s1, e1, g1, h1'⟩ := H ⟨un, ua, uh, ut⟩ (List.mem_cons_self) s
    have h1 : nmCon true ⟨un, 0, uh, ut'⟩ = nmCon false ⟨un, ua, uh, ut⟩ := by simp only [nmCon, h1', nmAt, cond_true, cond_false]
    have hlen : pre.length < t.cons.length := by rw [← h]; simp
    obtain ⟨x1, s2, e2, g2⟩ := AccR.appendF (t := C.ti T_Con) (f := Con.enc) (B := [(⟨un, 0, uh, ut'⟩ : Con)]) (y := .full [(⟨un, 0, uh, ut'⟩ : Con).enc]) (hA.move g1) rfl (fun a => by rw [T_Con_size]; exact Con.cells_len a) (by decide +kernel) (by simp only [List.length_singleton]; omega) (by decide +kernel)
    obtain ⟨x', s', R, e3, g3, h3⟩ := rbareDec_l1 t hl s0 y0 y3 y4 z1 z2 z3 z4 z5 z6 suf (pre ++ [⟨un, ua, uh, ut⟩]) (A ++ [⟨un, 0, uh, ut'⟩]) x1 s2 (pre.length + 1) g2 (by simpa using h) (by simp) (by simp [hn]) (fun w hw => H w (List.mem_cons_of_mem _ hw))
    refine ⟨x', s', ⟨un, 0, uh, ut'⟩ :: R, ?_, by simpa using g3, by simp only [nmCons, h1, h3]⟩
    rw [← e3, ref05_Bare_l1_eq]
    have c1 := g2.cellOk
    rw [Dec.cells_eq]
    simp only [go_sem, Nat.reduceAdd, Nat.reduceLeDiff, Nat.reduceSub, Nat.reduceMul, Nat.reduceEqDiff, Int.reduceEq, Int.reduceLT, Int.reduceLE, Int.reduceAdd, Int.reduceSub, Int.reduceNeg, Int.reduceGT, Int.reduceGE, Int.reduceNe, ne_eq, not_false_eq_true, Con.enc, Con.cells] at e1 e2 f2
    simp only [go_sem, Nat.reduceAdd, Nat.reduceLeDiff, Nat.reduceSub, Nat.reduceMul, Nat.reduceEqDiff, Int.reduceEq, Int.reduceLT, Int.reduceLE, Int.reduceAdd, Int.reduceSub, Int.reduceNeg, Int.reduceGT, Int.reduceGE, Int.reduceNe, ne_eq, not_false_eq_true, f1, f2, e1, e2, f3, c1]

theorem rbareDec_l2 (t : Dec) (hl : t.case.length < 2^28) (s0 : St) (y0 y3 y4 : Slot) (z1 z2 z3 z4 z5 z6 : Slot) : ∀ (suf pre A : List Case) (x : Slot) (s : St) (i : Nat), AccR T_Case s0 s x (A.map Case.enc) → pre ++ suf = t.case → i = pre.length → A.length = pre.length → (∀ t ∈ suf, RBareCase t) →
    ∃ x' s' R, ref05_Bare_l2 y0 y3 y4 (t.cells.map .val) [z1, z2, z3, z4, z5, x, z6] (.val (.int .i64 i)) s = ref05_Bare_l2 y0 y3 y4 (t.cells.map .val) [z1, z2, z3, z4, z5, x', z6] (.val (.int .i64 t.case.length)) s' ∧ AccR T_Case s0 s' x' ((A ++ R).map Case.enc) ∧ nmCases true R = nmCases false suf
  | [], pre, A, x, s, i, hA, h, hi, hn, H => by
    have : i = t.case.length := by rw [hi, ← h]; simp
    subst this
    exact ⟨x, s, [], rfl, by simpa using hA, by simp only [nmCases]⟩
  | u :: suf, pre, A, x, s, i, hA, h, hi, hn, H => by
    subst hi
    obtain ⟨f1, f2, f3⟩ := step_facts (x := .val (encS t.cb (t.case.map Case.enc))) (list?_encS _ _) h (by omega) (Case.cells_len (u)) (by decide)
    obtain ⟨u', s1, e1, g1, h1⟩ := H u (List.mem_cons_self) s
    have hlen : pre.length < t.case.length := by rw [← h]; simp
    obtain ⟨x1, s2, e2, g2⟩ := AccR.appendF (t := C.ti T_Case) (f := Case.enc) (B := [u']) (y := .full [u'.enc]) (hA.move g1) rfl (fun a => by rw [T_Case_size]; exact Case.cells_len a) (by decide +kernel) (by simp only [List.length_singleton]; omega) (by decide +kernel)
    obtain ⟨x', s', R, e3, g3, h3⟩ := rbareDec_l2 t hl s0 y0 y3 y4 z1 z2 z3 z4 z5 z6 suf (pre ++ [u]) (A ++ [u']) x1 s2 (pre.length + 1) g2 (by simpa using h) (by simp) (by simp [hn]) (fun w hw => H w (List.mem_cons_of_mem _ hw))
    refine ⟨x', s', u' :: R, ?_, by simpa using g3, by simp only [nmCases, h1, h3]⟩
    rw [← e3, ref05_Bare_l2_eq]
    have c1 := g2.cellOk
    rw [Dec.cells_eq]
    simp only [go_sem, Nat.reduceAdd, Nat.reduceLeDiff, Nat.reduceSub, Nat.reduceMul, Nat.reduceEqDiff, Int.reduceEq, Int.reduceLT, Int.reduceLE, Int.reduceAdd, Int.reduceSub, Int.reduceNeg, Int.reduceGT, Int.reduceGE, Int.reduceNe, ne_eq, not_false_eq_true] at e1 e2 f2
    simp only [go_sem, Nat.reduceAdd, Nat.reduceLeDiff, Nat.reduceSub, Nat.reduceMul, Nat.reduceEqDiff, Int.reduceEq, Int.reduceLT, Int.reduceLE, Int.reduceAdd, Int.reduceSub, Int.reduceNeg, Int.reduceGT, Int.reduceGE, Int.reduceNe, ne_eq, not_false_eq_true, f1, f2, e1, e2, f3, c1]

theorem rbareDec_l3 (t : Dec) (hl : t.funs.length < 2^28) (s0 : St) (y0 y3 y4 : Slot) (z1 z2 z3 z4 z5 z6 : Slot) : ∀ (suf pre A : List Fun) (x : Slot) (s : St) (i : Nat), AccR T_Fun s0 s x (A.map Fun.enc) → pre ++ suf = t.funs → i = pre.length → A.length = pre.length → (∀ t ∈ suf, RBareCase t.case) →
    ∃ x' s' R, ref05_Bare_l3 y0 y3 y4 (t.cells.map .val) [z1, z2, z3, z4, z5, z6, x] (.val (.int .i64 i)) s = ref05_Bare_l3 y0 y3 y4 (t.cells.map .val) [z1, z2, z3, z4, z5, z6, x'] (.val (.int .i64 t.funs.length)) s' ∧ AccR T_Fun s0 s' x' ((A ++ R).map Fun.enc) ∧ nmFuns true R = nmFuns false suf
  | [], pre, A, x, s, i, hA, h, hi, hn, H => by
    have : i = t.funs.length := by rw [hi, ← h]; simp
    subst this
    exact ⟨x, s, [], rfl, by simpa using hA, by simp only [nmFuns]⟩
  | .mk un ua uc :: suf, pre, A, x, s, i, hA, h, hi, hn, H => by
    subst hi
    obtain ⟨f1, f2, f3⟩ := step_facts (x := .val (encS t.fb (t.funs.map Fun.enc))) (list?_encS _ _) h (by omega) (Fun.cells_len (.mk un ua uc)) (by decide)
    obtain ⟨uc', s1, e1, g1, h1'⟩ := H (.mk un ua uc) (List.mem_cons_self) s
    have h1 : nmFun true (.mk un 0 uc') = nmFun false (.mk un ua uc) := by simp only [nmFun, h1', Fun.case, nmAt, cond_true, cond_false]
    simp only [Fun.case] at e1
    have hlen : pre.length < t.funs.length := by rw [← h]; simp
    obtain ⟨x1, s2, e2, g2⟩ := AccR.appendF (t := C.ti T_Fun) (f := Fun.enc) (B := [Fun.mk un 0 uc']) (y := .full [(Fun.mk un 0 uc').enc]) (hA.move g1) rfl (fun a => by rw [T_Fun_size]; exact Fun.cells_len a) (by decide +kernel) (by simp only [List.length_singleton]; omega) (by decide +kernel)
    obtain ⟨x', s', R, e3, g3, h3⟩ := rbareDec_l3 t hl s0 y0 y3 y4 z1 z2 z3 z4 z5 z6 suf (pre ++ [.mk un ua uc]) (A ++ [Fun.mk un 0 uc']) x1 s2 (pre.length + 1) g2 (by simpa using h) (by simp) (by simp [hn]) (fun w hw => H w (List.mem_cons_of_mem _ hw))
    refine ⟨x', s', Fun.mk un 0 uc' :: R, ?_, by simpa using g3, by simp only [nmFuns, h1, h3]⟩
    rw [← e3, ref05_Bare_l3_eq]
    have c1 := g2.cellOk
    rw [Dec.cells_eq]
    simp only [go_sem, Nat.reduceAdd, Nat.reduceLeDiff, Nat.reduceSub, Nat.reduceMul, Nat.reduceEqDiff, Int.reduceEq, Int.reduceLT, Int.reduceLE, Int.reduceAdd, Int.reduceSub, Int.reduceNeg, Int.reduceGT, Int.reduceGE, Int.reduceNe, ne_eq, not_false_eq_true, Fun.enc] at e1 e2 f2
    simp only [go_sem, Nat.reduceAdd, Nat.reduceLeDiff, Nat.reduceSub, Nat.reduceMul, Nat.reduceEqDiff, Int.reduceEq, Int.reduceLT, Int.reduceLE, Int.reduceAdd, Int.reduceSub, Int.reduceNeg, Int.reduceGT, Int.reduceGE, Int.reduceNe, ne_eq, not_false_eq_true, f1, f2, e1, e2, f3, c1]

theorem lt_same (n : Nat) : decide ((n : Int) < (n : Int)) = false := by simp

theorem rbareCase_of (p : Pat) (e : Exp) (hp : p.size < 2^26) (h : RBareExp e) : RBareCase (.mk p e) := fun s => by
  obtain ⟨p', s1, e1, g1, n1⟩ := rbarePat_spec p.size p (Nat.le_refl _) hp s
  obtain ⟨e', s2, e2, g2, n2⟩ := h s1
  refine ⟨.mk p' e', s2, ?_, g1.trans g2, by simp only [nmCase, n1, n2]⟩
  rw [ref05_bareCase_eq]; simp only [go_sem, Nat.reduceAdd, Nat.reduceLeDiff, Nat.reduceSub, Nat.reduceMul, Nat.reduceEqDiff, Int.reduceEq, Int.reduceLT, Int.reduceLE, Int.reduceAdd, Int.reduceSub, Int.reduceNeg, Int.reduceGT, Int.reduceGE, Int.reduceNe, ne_eq, not_false_eq_true, Case.enc, e1, e2]
  rw [← List.map_append, avs_map_val, aggO_some (by simp only [go_sem, Nat.reduceAdd, Nat.reduceLeDiff, Nat.reduceSub, Nat.reduceMul, Nat.reduceEqDiff, Int.reduceEq, Int.reduceLT, Int.reduceLE, Int.reduceAdd, Int.reduceSub, Int.reduceNeg, Int.reduceGT, Int.reduceGE, Int.reduceNe, ne_eq, not_false_eq_true])]
  rfl

theorem rbareExp_of (t : Exp) (h1 : t.kids.length < 2^28) (h2 : t.cases.length < 2^28) (HD : RBareDecs t.decs) (HE : ∀ u ∈ t.kids, RBareExp u) (HC : ∀ u ∈ t.cases, RBareCase u) : RBareExp t := fun s => by
  obtain ⟨x0, s0, R0, b0, e0, g0, c0, a0, n0⟩ := HD t.db s
  let zs : List Slot := [.val (.int .i64 0), .val (.int .i64 0), .val (.str []), .val (.int .i64 0), .val .nils, .val .nils, .val .nils]
  obtain ⟨x1, s1, R1, e1, g1, n1⟩ := rbareExp_l0 t h1 s0 zs (.val (.int .i64 t.kind)) (.val (.int .i64 0)) (.val (.str t.name)) (.val (.int .i64 t.n)) (.val .nils) (.val (encS b0 (R0.map Dec.enc))) t.kids [] [] (.val .nils) s0 0 (AccR.nil _ s0) rfl rfl rfl HE
  obtain ⟨x2, s2, R2, e2, g2, n2⟩ := rbareExp_l1 t h2 s1 zs (.val (.int .i64 t.kind)) (.val (.int .i64 0)) (.val (.str t.name)) (.val (.int .i64 t.n)) x1 (.val (encS b0 (R0.map Dec.enc))) t.cases [] [] (.val .nils) s1 0 (AccR.nil _ s1) rfl rfl rfl HC
  obtain ⟨b1, a1⟩ := g1.av
  obtain ⟨b2, a2⟩ := g2.av
  rw [List.nil_append] at a1 a2
  refine ⟨.mk t.kind 0 t.name t.n R1 b1 R2 b2 R0 b0, s2, ?_, (g0.trans g1.grew).trans g2.grew, ?_⟩
  · rw [ref05_BareExp_eq]
    rw [show ((0 : Nat) : Int) = 0 from rfl] at e1 e2
    have e3 : ref05_BareExp_l0 (t.cells.map .val) zs [.val (.int .i64 t.kind), .val (.int .i64 0), .val (.str t.name), .val (.int .i64 t.n), x1, .val .nils, .val (encS b0 (R0.map Dec.enc))] (.val (.int .i64 t.kids.length)) s1 = ref05_BareExp_l1 (t.cells.map .val) zs [.val (.int .i64 t.kind), .val (.int .i64 0), .val (.str t.name), .val (.int .i64 t.n), x1, .val .nils, .val (encS b0 (R0.map Dec.enc))] (.val (.int .i64 0)) s1 := by
      rw [ref05_BareExp_l0_eq]; rw [Exp.cells_eq]; simp only [go_sem, Nat.reduceAdd, Nat.reduceLeDiff, Nat.reduceSub, Nat.reduceMul, Nat.reduceEqDiff, Int.reduceEq, Int.reduceLT, Int.reduceLE, Int.reduceAdd, Int.reduceSub, Int.reduceNeg, Int.reduceGT, Int.reduceGE, Int.reduceNe, ne_eq, not_false_eq_true, lt_same]
    have e4 : ref05_BareExp_l1 (t.cells.map .val) zs [.val (.int .i64 t.kind), .val (.int .i64 0), .val (.str t.name), .val (.int .i64 t.n), x1, x2, .val (encS b0 (R0.map Dec.enc))] (.val (.int .i64 t.cases.length)) s2 = some (.ret (.val (Exp.mk t.kind 0 t.name t.n R1 b1 R2 b2 R0 b0).enc), s2) := by
      rw [ref05_BareExp_l1_eq]; rw [Exp.cells_eq]; simp only [go_sem, Nat.reduceAdd, Nat.reduceLeDiff, Nat.reduceSub, Nat.reduceMul, Nat.reduceEqDiff, Int.reduceEq, Int.reduceLT, Int.reduceLE, Int.reduceAdd, Int.reduceSub, Int.reduceNeg, Int.reduceGT, Int.reduceGE, Int.reduceNe, ne_eq, not_false_eq_true, lt_same, avs_cons a1, avs_cons a2, Exp.enc, zs]
    rw [e3, e2, e4] at e1
    rw [Exp.cells_eq] at e1
    simp only [go_sem, Nat.reduceAdd, Nat.reduceLeDiff, Nat.reduceSub, Nat.reduceMul, Nat.reduceEqDiff, Int.reduceEq, Int.reduceLT, Int.reduceLE, Int.reduceAdd, Int.reduceSub, Int.reduceNeg, Int.reduceGT, Int.reduceGE, Int.reduceNe, ne_eq, not_false_eq_true, zs] at e1
    simp only [go_sem, Nat.reduceAdd, Nat.reduceLeDiff, Nat.reduceSub, Nat.reduceMul, Nat.reduceEqDiff, Int.reduceEq, Int.reduceLT, Int.reduceLE, Int.reduceAdd, Int.reduceSub, Int.reduceNeg, Int.reduceGT, Int.reduceGE, Int.reduceNe, ne_eq, not_false_eq_true, Exp.enc, Exp.cells_eq, e0, fillS_cons a0, e1]
  · obtain ⟨k, a, nm, n, l, lb, c, cb, d, db⟩ := t
    simp only [Exp.kids, Exp.cases, Exp.decs] at n0 n1 n2
    simp only [nmExp, n0, n1, n2, nmAt, cond_true, cond_false, Exp.kind, Exp.name, Exp.n]

theorem rbareDec_run (t : Dec) (h1 : t.cons.length < 2^28) (h2 : t.case.length < 2^28) (h3 : t.funs.length < 2^28) (HL : ∀ u ∈ t.cons, RCopyTy u.arg) (HC : ∀ u ∈ t.case, RBareCase u) (HF : ∀ u ∈ t.funs, RBareCase u.case) (y0 y3 y4 : Slot) (s : St) : ∃ t' s', ref05_Bare_l1 y0 y3 y4 (t.cells.map .val) [.val (.int .i64 t.kind), .val (.int .i64 0), .val (.str t.name), .val (.int .i64 t.params), .val .nils, .val .nils, .val .nils] (.val (.int .i64 0)) s =
    (bind2 (appendS T_Dec (C.ti T_Dec) s' y3 (.full [t'.enc])) fun v106 s_11 => bind1 (binS (C.ti T_int) .add y4 (.val (.int .i64 1))) fun v15 => ref05_Bare_l0 y0 v106 v15 s_11) ∧ Grew s s' ∧ nmDec true t' = nmDec false t := by
  obtain ⟨x1, s1, R1, e1, g1, n1⟩ := rbareDec_l1 t h1 s y0 y3 y4 (.val (.int .i64 t.kind)) (.val (.int .i64 0)) (.val (.str t.name)) (.val (.int .i64 t.params)) (.val .nils) (.val .nils) t.cons [] [] (.val .nils) s 0 (AccR.nil _ s) rfl rfl rfl HL
  obtain ⟨x2, s2, R2, e2, g2, n2⟩ := rbareDec_l2 t h2 s1 y0 y3 y4 (.val (.int .i64 t.kind)) (.val (.int .i64 0)) (.val (.str t.name)) (.val (.int .i64 t.params)) x1 (.val .nils) t.case [] [] (.val .nils) s1 0 (AccR.nil _ s1) rfl rfl rfl HC
  obtain ⟨x3, s3, R3, e3, g3, n3⟩ := rbareDec_l3 t h3 s2 y0 y3 y4 (.val (.int .i64 t.kind)) (.val (.int .i64 0)) (.val (.str t.name)) (.val (.int .i64 t.params)) x1 x2 t.funs [] [] (.val .nils) s2 0 (AccR.nil _ s2) rfl rfl rfl HF
  obtain ⟨b1, a1⟩ := g1.av
  obtain ⟨b2, a2⟩ := g2.av
  obtain ⟨b3, a3⟩ := g3.av
  rw [List.nil_append] at a1 a2 a3
  rw [show ((0 : Nat) : Int) = 0 from rfl] at e1 e2 e3
  refine ⟨.mk t.kind 0 t.name t.params R1 b1 R2 b2 R3 b3, s3, ?_, (g1.grew.trans g2.grew).trans g3.grew, ?_⟩
  · have e4 : ref05_Bare_l1 y0 y3 y4 (t.cells.map .val) [.val (.int .i64 t.kind), .val (.int .i64 0), .val (.str t.name), .val (.int .i64 t.params), x1, .val .nils, .val .nils] (.val (.int .i64 t.cons.length)) s1 = ref05_Bare_l2 y0 y3 y4 (t.cells.map .val) [.val (.int .i64 t.kind), .val (.int .i64 0), .val (.str t.name), .val (.int .i64 t.params), x1, .val .nils, .val .nils] (.val (.int .i64 0)) s1 := by
      rw [ref05_Bare_l1_eq]; rw [Dec.cells_eq]; simp only [go_sem, Nat.reduceAdd, Nat.reduceLeDiff, Nat.reduceSub, Nat.reduceMul, Nat.reduceEqDiff, Int.reduceEq, Int.reduceLT, Int.reduceLE, Int.reduceAdd, Int.reduceSub, Int.reduceNeg, Int.reduceGT, Int.reduceGE, Int.reduceNe, ne_eq, not_false_eq_true, lt_same]
    have e5 : ref05_Bare_l2 y0 y3 y4 (t.cells.map .val) [.val (.int .i64 t.kind), .val (.int .i64 0), .val (.str t.name), .val (.int .i64 t.params), x1, x2, .val .nils] (.val (.int .i64 t.case.length)) s2 = ref05_Bare_l3 y0 y3 y4 (t.cells.map .val) [.val (.int .i64 t.kind), .val (.int .i64 0), .val (.str t.name), .val (.int .i64 t.params), x1, x2, .val .nils] (.val (.int .i64 0)) s2 := by
      rw [ref05_Bare_l2_eq]; rw [Dec.cells_eq]; simp only [go_sem, Nat.reduceAdd, Nat.reduceLeDiff, Nat.reduceSub, Nat.reduceMul, Nat.reduceEqDiff, Int.reduceEq, Int.reduceLT, Int.reduceLE, Int.reduceAdd, Int.reduceSub, Int.reduceNeg, Int.reduceGT, Int.reduceGE, Int.reduceNe, ne_eq, not_false_eq_true, lt_same]
    rw [e1, e4, e2, e5, e3, ref05_Bare_l3_eq]; rw [Dec.cells_eq]; simp only [go_sem, Nat.reduceAdd, Nat.reduceLeDiff, Nat.reduceSub, Nat.reduceMul, Nat.reduceEqDiff, Int.reduceEq, Int.reduceLT, Int.reduceLE, Int.reduceAdd, Int.reduceSub, Int.reduceNeg, Int.reduceGT, Int.reduceGE, Int.reduceNe, ne_eq, not_false_eq_true, lt_same, avs_cons a1, avs_cons a2, avs_cons a3, Dec.enc]
  · obtain ⟨k, a, nm, p, l, nb, c, cb, f, fb⟩ := t
    simp only [Dec.cons, Dec.case, Dec.funs] at n1 n2 n3
    simp only [nmDec, n1, n2, n3, nmAt, cond_true, cond_false, Dec.kind, Dec.name, Dec.params]

def RBareDecParts (t : Dec) : Prop := t.cons.length < 2^28 ∧ t.case.length < 2^28 ∧ t.funs.length < 2^28 ∧ (∀ u ∈ t.cons, RCopyTy u.arg) ∧ (∀ u ∈ t.case, RBareCase u) ∧ (∀ u ∈ t.funs, RBareCase u.case)

theorem rbareDecs_loop (L : List Dec) (y : Slot) (hy : y.list? = some (L.map Dec.enc)) (hl : L.length < 2^28) (s0 : St) : ∀ (suf pre A : List Dec) (x : Slot) (s : St) (i : Nat), AccR T_Dec s0 s x (A.map Dec.enc) → pre ++ suf = L → i = pre.length → A.length = pre.length → (∀ t ∈ suf, RBareDecParts t) →
    ∃ x' s' R, ref05_Bare_l0 y x (.val (.int .i64 i)) s = some (.ret x', s') ∧ AccR T_Dec s0 s' x' ((A ++ R).map Dec.enc) ∧ nmDecs true R = nmDecs false suf
  | [], pre, A, x, s, i, hA, h, hi, hn, H => by
    subst hi
    rw [ref05_Bare_l0_eq]; simp only [go_sem, Nat.reduceAdd, Nat.reduceLeDiff, Nat.reduceSub, Nat.reduceMul, Nat.reduceEqDiff, Int.reduceEq, Int.reduceLT, Int.reduceLE, Int.reduceAdd, Int.reduceSub, Int.reduceNeg, Int.reduceGT, Int.reduceGE, Int.reduceNe, ne_eq, not_false_eq_true, hy, end_facts (by simpa using h)]
    exact ⟨x, s, [], rfl, by simpa using hA, by simp only [nmDecs]⟩
  | t :: suf, pre, A, x, s, i, hA, h, hi, hn, H => by
    subst hi
    obtain ⟨f1, f2, f3⟩ := step_facts hy h (by omega) (Dec.cells_len t) (by decide)
    have hlen : pre.length < L.length := by rw [← h]; simp
    obtain ⟨p1, p2, p3, p4, p5, p6⟩ := H t (List.mem_cons_self)
    obtain ⟨t', s1, e1, g1, h1⟩ := rbareDec_run t p1 p2 p3 p4 p5 p6 y x (.val (.int .i64 pre.length)) s
    obtain ⟨x1, s2, e2, g2⟩ := AccR.appendF (t := C.ti T_Dec) (f := Dec.enc) (B := [t']) (y := .full [t'.enc]) (hA.move g1) rfl (fun a => by rw [T_Dec_size]; exact Dec.cells_len a) (by decide +kernel) (by simp only [List.length_singleton]; omega) (by decide +kernel)
    obtain ⟨x', s', R, e3, g3, h3⟩ := rbareDecs_loop L y hy hl s0 suf (pre ++ [t]) (A ++ [t']) x1 s2 (pre.length + 1) g2 (by simpa using h) (by simp) (by simp [hn]) (fun w hw => H w (List.mem_cons_of_mem _ hw))
    refine ⟨x', s', t' :: R, ?_, by simpa using g3, by simp only [nmDecs, h1, h3]⟩
    rw [ref05_Bare_l0_eq]
    rw [Dec.cells_eq] at e1
    simp only [go_sem, Nat.reduceAdd, Nat.reduceLeDiff, Nat.reduceSub, Nat.reduceMul, Nat.reduceEqDiff, Int.reduceEq, Int.reduceLT, Int.reduceLE, Int.reduceAdd, Int.reduceSub, Int.reduceNeg, Int.reduceGT, Int.reduceGE, Int.reduceNe, ne_eq, not_false_eq_true, e2, f3, e3] at e1
    simp only [go_sem, Nat.reduceAdd, Nat.reduceLeDiff, Nat.reduceSub, Nat.reduceMul, Nat.reduceEqDiff, Int.reduceEq, Int.reduceLT, Int.reduceLE, Int.reduceAdd, Int.reduceSub, Int.reduceNeg, Int.reduceGT, Int.reduceGE, Int.reduceNe, ne_eq, not_false_eq_true, Dec.enc, Dec.cells_eq] at f2
    simp only [go_sem, Nat.reduceAdd, Nat.reduceLeDiff, Nat.reduceSub, Nat.reduceMul, Nat.reduceEqDiff, Int.reduceEq, Int.reduceLT, Int.reduceLE, Int.reduceAdd, Int.reduceSub, Int.reduceNeg, Int.reduceGT, Int.reduceGE, Int.reduceNe, ne_eq, not_false_eq_true, hy, f1, f2, e1]
theorem rbareDecs_of (L : List Dec) (hl : L.length < 2^28) (H : ∀ t ∈ L, RBareDecParts t) : RBareDecs L := fun nl s => by
  obtain ⟨x, s', R, e1, g1, h1⟩ := rbareDecs_loop L (.val (encS nl (L.map Dec.enc))) (by simp only [go_sem, Nat.reduceAdd, Nat.reduceLeDiff, Nat.reduceSub, Nat.reduceMul, Nat.reduceEqDiff, Int.reduceEq, Int.reduceLT, Int.reduceLE, Int.reduceAdd, Int.reduceSub, Int.reduceNeg, Int.reduceGT, Int.reduceGE, Int.reduceNe, ne_eq, not_false_eq_true]) hl s L [] [] (.val .nils) s 0 (AccR.nil _ s) rfl rfl rfl H
  rw [show ((0 : Nat) : Int) = 0 from rfl] at e1
  obtain ⟨b, hb⟩ := g1.av
  refine ⟨x, s', R, b, ?_, g1.grew, g1.cellOk, hb, h1⟩
  rw [ref05_Bare_eq]; exact e1

theorem rbare_all : ∀ m : Nat, (∀ e : Exp, e.size ≤ m → e.size < 2^26 → RBareExp e) ∧ (∀ c : Case, c.size ≤ m → c.size < 2^26 → RBareCase c) ∧ (∀ d : Dec, d.size ≤ m → d.size < 2^26 → RBareDecParts d) := by
  intro m
  induction m with
  | zero =>
    refine ⟨fun e h _ => ?_, fun c h _ => ?_, fun d h _ => ?_⟩
    · obtain ⟨k, a, nm, n, l, lb, c, cb, d, db⟩ := e
      simp only [Exp.size] at h; omega
    · obtain ⟨p, e⟩ := c; simp only [Case.size] at h; omega
    · obtain ⟨k, a, nm, p, l, nb, c, cb, f, fb⟩ := d; simp only [Dec.size] at h; omega
  | succ m ih =>
    obtain ⟨ihE, ihC, ihD⟩ := ih
    refine ⟨fun e h h' => ?_, fun c h h' => ?_, fun d h h' => ?_⟩
    · obtain ⟨k, a, nm, n, l, lb, c, cb, d, db⟩ := e
      simp only [Exp.size] at h h'
      have h1 := Exp.len_sizes l
      have h2 := Case.len_sizes c
      have h3 := Dec.len_sizes d
      exact rbareExp_of _ (by simp only [Exp.kids]; omega) (by simp only [Exp.cases]; omega) (rbareDecs_of d (by omega) fun t ht => by have := Dec.mem_sizes ht; exact ihD t (by omega) (by omega)) (fun t ht => by have := Exp.mem_sizes (l := l) ht; exact ihE t (by omega) (by omega)) (fun t ht => by have := Case.mem_sizes (l := c) ht; exact ihC t (by omega) (by omega))
    · obtain ⟨p, e⟩ := c
      simp only [Case.size] at h h'
      exact rbareCase_of p e (by omega) (ihE e (by omega) (by omega))
    · obtain ⟨k, a, nm, p, l, nb, c, cb, f, fb⟩ := d
      simp only [Dec.size] at h h'
      have h1 := Con.len_sizes l
      have h2 := Case.len_sizes c
      have h3 := Fun.len_sizes f
      refine ⟨by simp only [Dec.cons]; omega, by simp only [Dec.case]; omega, by simp only [Dec.funs]; omega, fun t ht => ?_, fun t ht => ?_, fun t ht => ?_⟩
      · have := Con.mem_sizes (l := l) ht
        simp only [Con.size] at this
        exact copyTy_spec t.arg.size t.arg (Nat.le_refl _) (by omega)
      · have := Case.mem_sizes (l := c) ht
        exact ihC t (by omega) (by omega)
      · have := Fun.mem_sizes (l := f) ht
        obtain ⟨fn, fa, fc⟩ := t
        simp only [Fun.size, Fun.case] at this ⊢
        exact ihC fc (by omega) (by omega)

/-- camletref05.Bare -/
theorem ref05_Bare_spec (L : List Dec) (h : Dec.sizes L < 2^26) : RBareDecs L := by
  have h1 := Dec.len_sizes L
  exact rbareDecs_of L (by omega) fun t ht => by have := Dec.mem_sizes ht; exact (rbare_all t.size).2.2 t (Nat.le_refl _) (by omega)

end Go.Proofs.Ytemfpnlpnmglfaa
