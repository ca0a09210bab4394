/- The document's answer for the tree layer: the nodes of a tree. -/
import Derived.Test.YtemfpnlpnmglfaaPTree
import Derived.Test.YtemfpnlpnmglfaaG
set_option linter.unusedVariables false
set_option linter.unusedSimpArgs false
namespace Go.Proofs.Ytemfpnlpnmglfaa
open Go Go.Am
set_option maxRecDepth 4000

/-- nodes made anew -/
abbrev Nodes (r : Res) (s : St) (l : List TNode) : Prop := RetA r T_ref05_Node s (l.map TNode.enc)
abbrev NAcc (s0 s : St) (x : Slot) (l : List TNode) : Prop := AccR T_ref05_Node s0 s x (l.map TNode.enc)

theorem nacc {s0 s : St} {x y : Slot} {A B : List TNode} (h : NAcc s0 s x A) (hy : y.list? = some (B.map TNode.enc)) (b : A.length + B.length < 2^30) : ∃ x' s', appendS T_ref05_Node (C.ti T_ref05_Node) s x y = some (x', s') ∧ NAcc s0 s' x' (A ++ B) :=
  AccR.appendF h hy (fun a => by rw [T_ref05_Node_size]; exact TNode.cells_len a) (by rw [T_ref05_Node_size]; decide) b (by rw [T_ref05_Node_bytes]; decide)

theorem ref05_OfTy_loop (a : Int) (t : Ty) (hl : t.args.length < 2^40) (s0 : St) : ∀ (suf pre : List Ty) (A : List TNode) (x : Slot) (s : St) (i : Nat), NAcc s0 s x A → pre ++ suf = t.args → i = pre.length → (∀ t ∈ suf, ∀ s, Nodes (cw (.f F_ref05_OfTy) [t.enc, .int .i64 a] s) s (nodesTy a t)) → A.length + Ty.sizes suf < 2^30 →
    Nodes (ref05_OfTy_l0 (.val (.int .i64 a)) (t.cells.map .val) x (.val (.int .i64 i)) s) s0 (A ++ nodesTys a suf)
  | [], pre, A, x, s, i, hx, h, hi, H, hb => by
    subst hi
    rw [ref05_OfTy_l0_eq]; simp only [go_sem, Nat.reduceAdd, Nat.reduceLeDiff, Nat.reduceSub, Nat.reduceMul, Nat.reduceEqDiff, Int.reduceEq, Int.reduceLT, Int.reduceLE, Int.reduceAdd, Int.reduceSub, Int.reduceNeg, Int.reduceGT, Int.reduceGE, Int.reduceNe, ne_eq, not_false_eq_true, Ty.cells_eq, end_facts (by simpa using h), nodesTys]
    exact RetA.mk hx
  | u :: suf, pre, A, x, s, i, hx, h, hi, H, hb => by
    subst hi
    obtain ⟨f1, f2, f3⟩ := step_facts (x := .val (encS t.nl (t.args.map Ty.enc))) (list?_encS _ _) h (by omega) (Ty.cells_len u) (by decide)
    obtain ⟨y, s1, e1, g1⟩ := H u (List.mem_cons_self) s
    have hlen := nodesTy_len a u
    simp only [Ty.sizes] at hb
    obtain ⟨x', s2, e2, g2⟩ := nacc (hx.move g1.grew) g1.list? (by omega)
    have := ref05_OfTy_loop a t hl s0 suf (pre ++ [u]) (A ++ nodesTy a u) x' s2 (pre.length + 1) g2 (by simpa using h) (by simp) (fun w hw => H w (List.mem_cons_of_mem _ hw)) (by rw [List.length_append]; omega)
    rw [ref05_OfTy_l0_eq]; rw [Ty.cells_eq] at this ⊢; simp only [go_sem, Nat.reduceAdd, Nat.reduceLeDiff, Nat.reduceSub, Nat.reduceMul, Nat.reduceEqDiff, Int.reduceEq, Int.reduceLT, Int.reduceLE, Int.reduceAdd, Int.reduceSub, Int.reduceNeg, Int.reduceGT, Int.reduceGE, Int.reduceNe, ne_eq, not_false_eq_true, f1, f2, f3, e1, e2] at this ⊢
    simp only [nodesTys]
    exact this

theorem ref05_OfTy_spec : ∀ (m : Nat) (a : Int) (t : Ty) (s : St), t.size ≤ m → t.size < 2^28 → Nodes (cw (.f F_ref05_OfTy) [t.enc, .int .i64 a] s) s (nodesTy a t)
  | 0, a, .mk _ _ _ _ _, _, h, _ => by simp only [Ty.size] at h; omega
  | m + 1, a, .mk k n nm l nl, s, h, h' => by
    simp only [Ty.size] at h h'
    have hl := Ty.len_sizes l
    have := ref05_OfTy_loop a (.mk k n nm l nl) (by simp only [Ty.args]; omega) s l [] [.ty (.mk k n nm l nl) a] (.full [(TNode.ty (.mk k n nm l nl) a).enc]) s 0 (AccR.full _ _ _) rfl rfl (fun u hu s => by have := Ty.mem_sizes hu; exact ref05_OfTy_spec m a u s (by omega) (by omega)) (by simp only [List.length_singleton]; omega)
    rw [ref05_OfTy_eq]; simp only [go_sem, Nat.reduceAdd, Nat.reduceLeDiff, Nat.reduceSub, Nat.reduceMul, Nat.reduceEqDiff, Int.reduceEq, Int.reduceLT, Int.reduceLE, Int.reduceAdd, Int.reduceSub, Int.reduceNeg, Int.reduceGT, Int.reduceGE, Int.reduceNe, ne_eq, not_false_eq_true, Ty.enc, TNode.cells, Dec.zero, Exp.zero, Pat.zero, Fun.zero, Case.zero, Con.zero, Ty.zero, Con.cells, TNode.enc, nodesTy] at this ⊢
    exact this

theorem ref05_OfPat_loop (t : Pat) (hl : t.kids.length < 2^40) (s0 : St) : ∀ (suf pre : List Pat) (A : List TNode) (x : Slot) (s : St) (i : Nat), NAcc s0 s x A → pre ++ suf = t.kids → i = pre.length → (∀ t ∈ suf, ∀ s, Nodes (cw (.f F_ref05_OfPat) [t.enc] s) s (nodesPat t)) → A.length + Pat.sizes suf < 2^30 →
    Nodes (ref05_OfPat_l0 (t.cells.map .val) x (.val (.int .i64 i)) s) s0 (A ++ nodesPats suf)
  | [], pre, A, x, s, i, hx, h, hi, H, hb => by
    subst hi
    rw [ref05_OfPat_l0_eq]; simp only [go_sem, Nat.reduceAdd, Nat.reduceLeDiff, Nat.reduceSub, Nat.reduceMul, Nat.reduceEqDiff, Int.reduceEq, Int.reduceLT, Int.reduceLE, Int.reduceAdd, Int.reduceSub, Int.reduceNeg, Int.reduceGT, Int.reduceGE, Int.reduceNe, ne_eq, not_false_eq_true, Pat.cells_eq, end_facts (by simpa using h), nodesPats]
    exact RetA.mk hx
  | u :: suf, pre, A, x, s, i, hx, h, hi, H, hb => by
    subst hi
    obtain ⟨f1, f2, f3⟩ := step_facts (x := .val (encS t.kb (t.kids.map Pat.enc))) (list?_encS _ _) h (by omega) (Pat.cells_len u) (by decide)
    obtain ⟨y, s1, e1, g1⟩ := H u (List.mem_cons_self) s
    have hlen := nodesPat_len u
    simp only [Pat.sizes] at hb
    obtain ⟨x', s2, e2, g2⟩ := nacc (hx.move g1.grew) g1.list? (by omega)
    have := ref05_OfPat_loop t hl s0 suf (pre ++ [u]) (A ++ nodesPat u) x' s2 (pre.length + 1) g2 (by simpa using h) (by simp) (fun w hw => H w (List.mem_cons_of_mem _ hw)) (by rw [List.length_append]; omega)
    rw [ref05_OfPat_l0_eq]; rw [Pat.cells_eq] at this ⊢; simp only [go_sem, Nat.reduceAdd, Nat.reduceLeDiff, Nat.reduceSub, Nat.reduceMul, Nat.reduceEqDiff, Int.reduceEq, Int.reduceLT, Int.reduceLE, Int.reduceAdd, Int.reduceSub, Int.reduceNeg, Int.reduceGT, Int.reduceGE, Int.reduceNe, ne_eq, not_false_eq_true, f1, f2, f3, e1, e2] at this ⊢
    simp only [nodesPats]
    exact this

theorem ref05_OfPat_spec : ∀ (m : Nat) (t : Pat) (s : St), t.size ≤ m → t.size < 2^28 → Nodes (cw (.f F_ref05_OfPat) [t.enc] s) s (nodesPat t)
  | 0, .mk _ _ _ _ _ _, _, h, _ => by simp only [Pat.size] at h; omega
  | m + 1, .mk k a nm n l nl, s, h, h' => by
    simp only [Pat.size] at h h'
    have hl := Pat.len_sizes l
    have := ref05_OfPat_loop (.mk k a nm n l nl) (by simp only [Pat.kids]; omega) s l [] [.pat (.mk k a nm n l nl)] (.full [(TNode.pat (.mk k a nm n l nl)).enc]) s 0 (AccR.full _ _ _) rfl rfl (fun u hu s => by have := Pat.mem_sizes hu; exact ref05_OfPat_spec m u s (by omega) (by omega)) (by simp only [List.length_singleton]; omega)
    rw [ref05_OfPat_eq]; simp only [go_sem, Nat.reduceAdd, Nat.reduceLeDiff, Nat.reduceSub, Nat.reduceMul, Nat.reduceEqDiff, Int.reduceEq, Int.reduceLT, Int.reduceLE, Int.reduceAdd, Int.reduceSub, Int.reduceNeg, Int.reduceGT, Int.reduceGE, Int.reduceNe, ne_eq, not_false_eq_true, Pat.enc, TNode.cells, Dec.zero, Exp.zero, Pat.zero, Fun.zero, Case.zero, Con.zero, Ty.zero, Con.cells, TNode.enc, nodesPat, Pat.at_] at this ⊢
    exact this

def ofExpOK (t : Exp) : Prop := ∀ s, Nodes (cw (.f F_ref05_OfExp) [t.enc] s) s (nodesExp t)
def ofCaseOK (t : Case) : Prop := ∀ s, Nodes (cw (.f F_ref05_OfCase) [t.enc] s) s (nodesCase t)
def ofDecOK (t : Dec) : Prop := ∀ inn s, Nodes (cw (.f F_ref05_OfDec) [t.enc, .bool inn] s) s (nodesDec inn t)

theorem ref05_OfCase_of (p : Pat) (e : Exp) (h : ofExpOK e) (hs : (Case.mk p e).size < 2^28) : ofCaseOK (.mk p e) := fun s => by
  simp only [Case.size] at hs
  obtain ⟨y, s1, e1, g1⟩ := ref05_OfPat_spec _ p s (Nat.le_refl _) (by omega)
  obtain ⟨z, s2, e2, g2⟩ := h s1
  have h1 := nodesPat_len p
  have h2 := nodesExp_len e
  obtain ⟨x', s3, e3, g3⟩ := nacc (g1.move g2.grew) g2.list? (by omega)
  rw [ref05_OfCase_eq]; simp only [go_sem, Nat.reduceAdd, Nat.reduceLeDiff, Nat.reduceSub, Nat.reduceMul, Nat.reduceEqDiff, Int.reduceEq, Int.reduceLT, Int.reduceLE, Int.reduceAdd, Int.reduceSub, Int.reduceNeg, Int.reduceGT, Int.reduceGE, Int.reduceNe, ne_eq, not_false_eq_true, e1, e2, e3]
  simp only [nodesCase]
  exact RetA.mk g3

theorem ref05_OfExp_l2_loop (t : Exp) (hl : t.cases.length < 2^40) (s0 : St) : ∀ (suf pre : List Case) (A : List TNode) (x : Slot) (s : St) (i : Nat), NAcc s0 s x A → pre ++ suf = t.cases → i = pre.length → (∀ t ∈ suf, ofCaseOK t) → A.length + Case.sizes suf < 2^30 →
    Nodes (ref05_OfExp_l2 (t.cells.map .val) x (.val (.int .i64 i)) s) s0 (A ++ nodesCases suf)
  | [], pre, A, x, s, i, hx, h, hi, H, hb => by
    subst hi
    rw [ref05_OfExp_l2_eq]; simp only [go_sem, Nat.reduceAdd, Nat.reduceLeDiff, Nat.reduceSub, Nat.reduceMul, Nat.reduceEqDiff, Int.reduceEq, Int.reduceLT, Int.reduceLE, Int.reduceAdd, Int.reduceSub, Int.reduceNeg, Int.reduceGT, Int.reduceGE, Int.reduceNe, ne_eq, not_false_eq_true, Exp.cells_eq, end_facts (by simpa using h), nodesCases]
    exact RetA.mk hx
  | u :: suf, pre, A, x, s, i, hx, h, hi, H, hb => by
    subst hi
    obtain ⟨f1, f2, f3⟩ := step_facts (x := .val (encS t.cb (t.cases.map Case.enc))) (list?_encS _ _) h (by omega) (Case.cells_len u) (by decide)
    obtain ⟨y, s1, e1, g1⟩ := H u (List.mem_cons_self) s
    have hlen := nodesCase_len u
    simp only [Case.sizes] at hb
    obtain ⟨x', s2, e2, g2⟩ := nacc (hx.move g1.grew) g1.list? (by omega)
    have := ref05_OfExp_l2_loop t hl s0 suf (pre ++ [u]) (A ++ nodesCase u) x' s2 (pre.length + 1) g2 (by simpa using h) (by simp) (fun w hw => H w (List.mem_cons_of_mem _ hw)) (by rw [List.length_append]; omega)
    rw [ref05_OfExp_l2_eq]; rw [Exp.cells_eq] at this ⊢; simp only [go_sem, Nat.reduceAdd, Nat.reduceLeDiff, Nat.reduceSub, Nat.reduceMul, Nat.reduceEqDiff, Int.reduceEq, Int.reduceLT, Int.reduceLE, Int.reduceAdd, Int.reduceSub, Int.reduceNeg, Int.reduceGT, Int.reduceGE, Int.reduceNe, ne_eq, not_false_eq_true, f1, f2, f3, e1, e2] at this ⊢
    simp only [nodesCases]
    exact this

theorem ref05_OfExp_l1_loop (t : Exp) (hl : t.kids.length < 2^40) (hl2 : t.cases.length < 2^40) (Hc : ∀ c ∈ t.cases, ofCaseOK c) (s0 : St) : ∀ (suf pre : List Exp) (A : List TNode) (x : Slot) (s : St) (i : Nat), NAcc s0 s x A → pre ++ suf = t.kids → i = pre.length → (∀ t ∈ suf, ofExpOK t) → A.length + Exp.sizes suf + Case.sizes t.cases < 2^30 →
    Nodes (ref05_OfExp_l1 (t.cells.map .val) x (.val (.int .i64 i)) s) s0 (A ++ (nodesExps suf ++ nodesCases t.cases))
  | [], pre, A, x, s, i, hx, h, hi, H, hb => by
    subst hi
    have := ref05_OfExp_l2_loop t hl2 s0 t.cases [] A x s 0 hx rfl rfl Hc (by omega)
    rw [ref05_OfExp_l1_eq]; rw [Exp.cells_eq] at this ⊢; simp only [go_sem, Nat.reduceAdd, Nat.reduceLeDiff, Nat.reduceSub, Nat.reduceMul, Nat.reduceEqDiff, Int.reduceEq, Int.reduceLT, Int.reduceLE, Int.reduceAdd, Int.reduceSub, Int.reduceNeg, Int.reduceGT, Int.reduceGE, Int.reduceNe, ne_eq, not_false_eq_true, end_facts (by simpa using h), nodesExps] at this ⊢
    exact this
  | u :: suf, pre, A, x, s, i, hx, h, hi, H, hb => by
    subst hi
    obtain ⟨f1, f2, f3⟩ := step_facts (x := .val (encS t.kb (t.kids.map Exp.enc))) (list?_encS _ _) h (by omega) (Exp.cells_len u) (by decide)
    obtain ⟨y, s1, e1, g1⟩ := H u (List.mem_cons_self) s
    have hlen := nodesExp_len u
    simp only [Exp.sizes] at hb
    obtain ⟨x', s2, e2, g2⟩ := nacc (hx.move g1.grew) g1.list? (by omega)
    have := ref05_OfExp_l1_loop t hl hl2 Hc s0 suf (pre ++ [u]) (A ++ nodesExp u) x' s2 (pre.length + 1) g2 (by simpa using h) (by simp) (fun w hw => H w (List.mem_cons_of_mem _ hw)) (by rw [List.length_append]; omega)
    rw [ref05_OfExp_l1_eq]; rw [Exp.cells_eq] at this ⊢; simp only [go_sem, Nat.reduceAdd, Nat.reduceLeDiff, Nat.reduceSub, Nat.reduceMul, Nat.reduceEqDiff, Int.reduceEq, Int.reduceLT, Int.reduceLE, Int.reduceAdd, Int.reduceSub, Int.reduceNeg, Int.reduceGT, Int.reduceGE, Int.reduceNe, ne_eq, not_false_eq_true, f1, f2, f3, e1, e2] at this ⊢
    simp only [go_sem, Nat.reduceAdd, Nat.reduceLeDiff, Nat.reduceSub, Nat.reduceMul, Nat.reduceEqDiff, Int.reduceEq, Int.reduceLT, Int.reduceLE, Int.reduceAdd, Int.reduceSub, Int.reduceNeg, Int.reduceGT, Int.reduceGE, Int.reduceNe, ne_eq, not_false_eq_true, nodesExps]
    exact this

theorem ref05_OfExp_l0_loop (t : Exp) (hl0 : t.decs.length < 2^40) (hl : t.kids.length < 2^40) (hl2 : t.cases.length < 2^40) (He : ∀ c ∈ t.kids, ofExpOK c) (Hc : ∀ c ∈ t.cases, ofCaseOK c) (s0 : St) : ∀ (suf pre : List Dec) (A : List TNode) (x : Slot) (s : St) (i : Nat), NAcc s0 s x A → pre ++ suf = t.decs → i = pre.length → (∀ t ∈ suf, ofDecOK t) → A.length + Dec.sizes suf + Exp.sizes t.kids + Case.sizes t.cases < 2^30 →
    Nodes (ref05_OfExp_l0 (t.cells.map .val) x (.val (.int .i64 i)) s) s0 (A ++ (nodesDecs true suf ++ (nodesExps t.kids ++ nodesCases t.cases)))
  | [], pre, A, x, s, i, hx, h, hi, H, hb => by
    subst hi
    have := ref05_OfExp_l1_loop t hl hl2 Hc s0 t.kids [] A x s 0 hx rfl rfl He (by omega)
    rw [ref05_OfExp_l0_eq]; rw [Exp.cells_eq] at this ⊢; simp only [go_sem, Nat.reduceAdd, Nat.reduceLeDiff, Nat.reduceSub, Nat.reduceMul, Nat.reduceEqDiff, Int.reduceEq, Int.reduceLT, Int.reduceLE, Int.reduceAdd, Int.reduceSub, Int.reduceNeg, Int.reduceGT, Int.reduceGE, Int.reduceNe, ne_eq, not_false_eq_true, end_facts (by simpa using h), nodesDecs] at this ⊢
    exact this
  | u :: suf, pre, A, x, s, i, hx, h, hi, H, hb => by
    subst hi
    obtain ⟨f1, f2, f3⟩ := step_facts (x := .val (encS t.db (t.decs.map Dec.enc))) (list?_encS _ _) h (by omega) (Dec.cells_len u) (by decide)
    obtain ⟨y, s1, e1, g1⟩ := H u (List.mem_cons_self) true s
    have hlen := nodesDec_len true u
    simp only [Dec.sizes] at hb
    obtain ⟨x', s2, e2, g2⟩ := nacc (hx.move g1.grew) g1.list? (by omega)
    have := ref05_OfExp_l0_loop t hl0 hl hl2 He Hc s0 suf (pre ++ [u]) (A ++ nodesDec true u) x' s2 (pre.length + 1) g2 (by simpa using h) (by simp) (fun w hw => H w (List.mem_cons_of_mem _ hw)) (by rw [List.length_append]; omega)
    rw [ref05_OfExp_l0_eq]; rw [Exp.cells_eq] at this ⊢; simp only [go_sem, Nat.reduceAdd, Nat.reduceLeDiff, Nat.reduceSub, Nat.reduceMul, Nat.reduceEqDiff, Int.reduceEq, Int.reduceLT, Int.reduceLE, Int.reduceAdd, Int.reduceSub, Int.reduceNeg, Int.reduceGT, Int.reduceGE, Int.reduceNe, ne_eq, not_false_eq_true, f1, f2, f3, e1, e2] at this ⊢
    simp only [go_sem, Nat.reduceAdd, Nat.reduceLeDiff, Nat.reduceSub, Nat.reduceMul, Nat.reduceEqDiff, Int.reduceEq, Int.reduceLT, Int.reduceLE, Int.reduceAdd, Int.reduceSub, Int.reduceNeg, Int.reduceGT, Int.reduceGE, Int.reduceNe, ne_eq, not_false_eq_true, nodesDecs]
    exact this

theorem ref05_OfDec_l2_loop (t : Dec) (hl : t.cons.length < 2^40) (s0 : St) : ∀ (suf pre : List Con) (A : List TNode) (x : Slot) (s : St) (i : Nat), NAcc s0 s x A → pre ++ suf = t.cons → i = pre.length → A.length + Con.sizes suf < 2^28 →
    Nodes (ref05_OfDec_l2 (t.cells.map .val) x (.val (.int .i64 i)) s) s0 (A ++ nodesCons suf)
  | [], pre, A, x, s, i, hx, h, hi, hb => by
    subst hi
    rw [ref05_OfDec_l2_eq]; simp only [go_sem, Nat.reduceAdd, Nat.reduceLeDiff, Nat.reduceSub, Nat.reduceMul, Nat.reduceEqDiff, Int.reduceEq, Int.reduceLT, Int.reduceLE, Int.reduceAdd, Int.reduceSub, Int.reduceNeg, Int.reduceGT, Int.reduceGE, Int.reduceNe, ne_eq, not_false_eq_true, Dec.cells_eq, end_facts (by simpa using h), nodesCons]
    exact RetA.mk hx
  | .mk nm a hs arg :: suf, pre, A, x, s, i, hx, h, hi, hb => by
    subst hi
    obtain ⟨f1, f2, f3⟩ := step_facts (x := .val (encS t.nb (t.cons.map Con.enc))) (list?_encS _ _) h (by omega) (Con.cells_len ⟨nm, a, hs, arg⟩) (by decide)
    have hlen := nodesTy_len a arg
    simp only [Con.sizes, Con.size] at hb
    obtain ⟨x', s2, e2, g2⟩ := nacc (B := [.con ⟨nm, a, hs, arg⟩]) (y := .full [(TNode.con ⟨nm, a, hs, arg⟩).enc]) hx rfl (by simp only [List.length_singleton]; omega)
    cases hs with
    | false =>
      have := ref05_OfDec_l2_loop t hl s0 suf (pre ++ [⟨nm, a, false, arg⟩]) (A ++ [.con ⟨nm, a, false, arg⟩]) x' s2 (pre.length + 1) g2 (by simpa using h) (by simp) (by simp only [List.length_append, List.length_singleton]; omega)
      rw [ref05_OfDec_l2_eq]; rw [Dec.cells_eq] at this ⊢; simp only [go_sem, Nat.reduceAdd, Nat.reduceLeDiff, Nat.reduceSub, Nat.reduceMul, Nat.reduceEqDiff, Int.reduceEq, Int.reduceLT, Int.reduceLE, Int.reduceAdd, Int.reduceSub, Int.reduceNeg, Int.reduceGT, Int.reduceGE, Int.reduceNe, ne_eq, not_false_eq_true, f1, f2, f3, TNode.cells, Dec.zero, Exp.zero, Pat.zero, Fun.zero, Case.zero, Con.zero, Ty.zero, Con.cells, TNode.enc] at e2 this ⊢
      simp only [go_sem, Nat.reduceAdd, Nat.reduceLeDiff, Nat.reduceSub, Nat.reduceMul, Nat.reduceEqDiff, Int.reduceEq, Int.reduceLT, Int.reduceLE, Int.reduceAdd, Int.reduceSub, Int.reduceNeg, Int.reduceGT, Int.reduceGE, Int.reduceNe, ne_eq, not_false_eq_true, e2, nodesCons, nodesCon]
      exact this
    | true =>
      obtain ⟨y, s1, e1, g1⟩ := ref05_OfTy_spec _ a arg s2 (Nat.le_refl _) (by omega)
      obtain ⟨x3, s3, e3, g3⟩ := nacc (g2.move g1.grew) g1.list? (by simp only [List.length_append, List.length_singleton]; omega)
      have := ref05_OfDec_l2_loop t hl s0 suf (pre ++ [⟨nm, a, true, arg⟩]) (A ++ [.con ⟨nm, a, true, arg⟩] ++ nodesTy a arg) x3 s3 (pre.length + 1) g3 (by simpa using h) (by simp) (by simp only [List.length_append, List.length_singleton]; omega)
      rw [ref05_OfDec_l2_eq]; rw [Dec.cells_eq] at this ⊢; simp only [go_sem, Nat.reduceAdd, Nat.reduceLeDiff, Nat.reduceSub, Nat.reduceMul, Nat.reduceEqDiff, Int.reduceEq, Int.reduceLT, Int.reduceLE, Int.reduceAdd, Int.reduceSub, Int.reduceNeg, Int.reduceGT, Int.reduceGE, Int.reduceNe, ne_eq, not_false_eq_true, f1, f2, f3, TNode.cells, Dec.zero, Exp.zero, Pat.zero, Fun.zero, Case.zero, Con.zero, Ty.zero, Con.cells, TNode.enc] at e2 this ⊢
      simp only [go_sem, Nat.reduceAdd, Nat.reduceLeDiff, Nat.reduceSub, Nat.reduceMul, Nat.reduceEqDiff, Int.reduceEq, Int.reduceLT, Int.reduceLE, Int.reduceAdd, Int.reduceSub, Int.reduceNeg, Int.reduceGT, Int.reduceGE, Int.reduceNe, ne_eq, not_false_eq_true, e2, e1, e3, nodesCons, nodesCon]
      exact this

theorem ref05_OfDec_l1_loop (t : Dec) (hl : t.funs.length < 2^40) (hl2 : t.cons.length < 2^40) (s0 : St) : ∀ (suf pre : List Fun) (A : List TNode) (x : Slot) (s : St) (i : Nat), NAcc s0 s x A → pre ++ suf = t.funs → i = pre.length → (∀ f ∈ suf, ofCaseOK f.case) → A.length + Fun.sizes suf + Con.sizes t.cons < 2^28 →
    Nodes (ref05_OfDec_l1 (t.cells.map .val) x (.val (.int .i64 i)) s) s0 (A ++ (nodesFuns suf ++ nodesCons t.cons))
  | [], pre, A, x, s, i, hx, h, hi, H, hb => by
    subst hi
    have := ref05_OfDec_l2_loop t hl2 s0 t.cons [] A x s 0 hx rfl rfl (by omega)
    rw [ref05_OfDec_l1_eq]; rw [Dec.cells_eq] at this ⊢; simp only [go_sem, Nat.reduceAdd, Nat.reduceLeDiff, Nat.reduceSub, Nat.reduceMul, Nat.reduceEqDiff, Int.reduceEq, Int.reduceLT, Int.reduceLE, Int.reduceAdd, Int.reduceSub, Int.reduceNeg, Int.reduceGT, Int.reduceGE, Int.reduceNe, ne_eq, not_false_eq_true, end_facts (by simpa using h), nodesFuns] at this ⊢
    exact this
  | .mk nm a c :: suf, pre, A, x, s, i, hx, h, hi, H, hb => by
    subst hi
    obtain ⟨f1, f2, f3⟩ := step_facts (x := .val (encS t.fb (t.funs.map Fun.enc))) (list?_encS _ _) h (by omega) (Fun.cells_len (.mk nm a c)) (by decide)
    have hlen := nodesCase_len c
    simp only [Fun.sizes, Fun.size] at hb
    obtain ⟨x', s2, e2, g2⟩ := nacc (B := [.fn (.mk nm a c)]) (y := .full [(TNode.fn (.mk nm a c)).enc]) hx rfl (by simp only [List.length_singleton]; omega)
    obtain ⟨y, s1, e1, g1⟩ := H (.mk nm a c) (List.mem_cons_self) s2
    simp only [Fun.case] at e1 g1
    obtain ⟨x3, s3, e3, g3⟩ := nacc (g2.move g1.grew) g1.list? (by simp only [List.length_append, List.length_singleton]; omega)
    have := ref05_OfDec_l1_loop t hl hl2 s0 suf (pre ++ [.mk nm a c]) (A ++ [.fn (.mk nm a c)] ++ nodesCase c) x3 s3 (pre.length + 1) g3 (by simpa using h) (by simp) (fun w hw => H w (List.mem_cons_of_mem _ hw)) (by simp only [List.length_append, List.length_singleton]; omega)
    rw [ref05_OfDec_l1_eq]; rw [Dec.cells_eq] at this ⊢; simp only [go_sem, Nat.reduceAdd, Nat.reduceLeDiff, Nat.reduceSub, Nat.reduceMul, Nat.reduceEqDiff, Int.reduceEq, Int.reduceLT, Int.reduceLE, Int.reduceAdd, Int.reduceSub, Int.reduceNeg, Int.reduceGT, Int.reduceGE, Int.reduceNe, ne_eq, not_false_eq_true, f1, f2, f3, TNode.cells, Dec.zero, Exp.zero, Pat.zero, Fun.zero, Case.zero, Con.zero, Ty.zero, Con.cells, TNode.enc, Fun.at_] at e2 this ⊢
    simp only [go_sem, Nat.reduceAdd, Nat.reduceLeDiff, Nat.reduceSub, Nat.reduceMul, Nat.reduceEqDiff, Int.reduceEq, Int.reduceLT, Int.reduceLE, Int.reduceAdd, Int.reduceSub, Int.reduceNeg, Int.reduceGT, Int.reduceGE, Int.reduceNe, ne_eq, not_false_eq_true, e2, e1, e3, nodesFuns, nodesFun]
    exact this

theorem ref05_OfDec_l0_loop (t : Dec) (hl0 : t.case.length < 2^40) (hl : t.funs.length < 2^40) (hl2 : t.cons.length < 2^40) (Hf : ∀ f ∈ t.funs, ofCaseOK f.case) (s0 : St) : ∀ (suf pre : List Case) (A : List TNode) (x : Slot) (s : St) (i : Nat), NAcc s0 s x A → pre ++ suf = t.case → i = pre.length → (∀ f ∈ suf, ofCaseOK f) → A.length + Case.sizes suf + Fun.sizes t.funs + Con.sizes t.cons < 2^28 →
    Nodes (ref05_OfDec_l0 (t.cells.map .val) x (.val (.int .i64 i)) s) s0 (A ++ (nodesCases suf ++ (nodesFuns t.funs ++ nodesCons t.cons)))
  | [], pre, A, x, s, i, hx, h, hi, H, hb => by
    subst hi
    have := ref05_OfDec_l1_loop t hl hl2 s0 t.funs [] A x s 0 hx rfl rfl Hf (by omega)
    rw [ref05_OfDec_l0_eq]; rw [Dec.cells_eq] at this ⊢; simp only [go_sem, Nat.reduceAdd, Nat.reduceLeDiff, Nat.reduceSub, Nat.reduceMul, Nat.reduceEqDiff, Int.reduceEq, Int.reduceLT, Int.reduceLE, Int.reduceAdd, Int.reduceSub, Int.reduceNeg, Int.reduceGT, Int.reduceGE, Int.reduceNe, ne_eq, not_false_eq_true, end_facts (by simpa using h), nodesCases] at this ⊢
    exact this
  | u :: suf, pre, A, x, s, i, hx, h, hi, H, hb => by
    subst hi
    obtain ⟨f1, f2, f3⟩ := step_facts (x := .val (encS t.cb (t.case.map Case.enc))) (list?_encS _ _) h (by omega) (Case.cells_len u) (by decide)
    obtain ⟨y, s1, e1, g1⟩ := H u (List.mem_cons_self) s
    have hlen := nodesCase_len u
    simp only [Case.sizes] at hb
    obtain ⟨x', s2, e2, g2⟩ := nacc (hx.move g1.grew) g1.list? (by omega)
    have := ref05_OfDec_l0_loop t hl0 hl hl2 Hf s0 suf (pre ++ [u]) (A ++ nodesCase u) x' s2 (pre.length + 1) g2 (by simpa using h) (by simp) (fun w hw => H w (List.mem_cons_of_mem _ hw)) (by rw [List.length_append]; omega)
    rw [ref05_OfDec_l0_eq]; rw [Dec.cells_eq] at this ⊢; simp only [go_sem, Nat.reduceAdd, Nat.reduceLeDiff, Nat.reduceSub, Nat.reduceMul, Nat.reduceEqDiff, Int.reduceEq, Int.reduceLT, Int.reduceLE, Int.reduceAdd, Int.reduceSub, Int.reduceNeg, Int.reduceGT, Int.reduceGE, Int.reduceNe, ne_eq, not_false_eq_true, f1, f2, f3, e1, e2] at this ⊢
    simp only [go_sem, Nat.reduceAdd, Nat.reduceLeDiff, Nat.reduceSub, Nat.reduceMul, Nat.reduceEqDiff, Int.reduceEq, Int.reduceLT, Int.reduceLE, Int.reduceAdd, Int.reduceSub, Int.reduceNeg, Int.reduceGT, Int.reduceGE, Int.reduceNe, ne_eq, not_false_eq_true, nodesCases]
    exact this

theorem ref05_of_all : ∀ m : Nat, (∀ e : Exp, e.size ≤ m → e.size < 2^26 → ofExpOK e) ∧ (∀ l : Dec, l.size ≤ m → l.size < 2^26 → ofDecOK l) := by
  intro m
  induction m with
  | zero =>
    refine ⟨fun e h _ => ?_, fun l h _ => ?_⟩
    · obtain ⟨k, a, nm, n, l, lb, c, cb, d, db⟩ := e
      simp only [Exp.size] at h; omega
    · obtain ⟨k, a, nm, p, l, nb, c, cb, f, fb⟩ := l; simp only [Dec.size] at h; omega
  | succ m ih =>
    obtain ⟨ihE, ihD⟩ := ih
    have hcase1 : ∀ t : Case, t.size ≤ m + 1 → t.size < 2^26 → ofCaseOK t := fun t h h' => by
      obtain ⟨p, e⟩ := t
      exact ref05_OfCase_of p e (ihE e (by simp only [Case.size] at h; omega) (by simp only [Case.size] at h'; omega)) (by omega)
    have hcase : ∀ (c : List Case), Case.sizes c ≤ m + 1 → Case.sizes c < 2^26 → ∀ t ∈ c, ofCaseOK t := fun c h h' t ht => by
      have := Case.mem_sizes ht
      exact hcase1 t (by omega) (by omega)
    refine ⟨fun e h h' s => ?_, fun d h h' inn s => ?_⟩
    · obtain ⟨k, a, nm, n, l, lb, c, cb, d, db⟩ := e
      simp only [Exp.size] at h h'
      have hl := Exp.len_sizes l
      have hl2 := Case.len_sizes c
      have hl3 := Dec.len_sizes d
      have := ref05_OfExp_l0_loop (.mk k a nm n l lb c cb d db) (by simp only [Exp.decs]; omega) (by simp only [Exp.kids]; omega) (by simp only [Exp.cases]; omega) (fun t ht => by have := Exp.mem_sizes ht; simp only [Exp.kids] at this; exact ihE t (by omega) (by omega)) (hcase c (by omega) (by omega)) s d [] [.exp (.mk k a nm n l lb c cb d db)] (.full [(TNode.exp (.mk k a nm n l lb c cb d db)).enc]) s 0 (AccR.full _ _ _) rfl rfl (fun t ht => ihD t (by have := Dec.mem_sizes ht; omega) (by have := Dec.mem_sizes ht; omega)) (by simp only [List.length_singleton, Exp.kids, Exp.cases]; omega)
      rw [ref05_OfExp_eq]; simp only [go_sem, Nat.reduceAdd, Nat.reduceLeDiff, Nat.reduceSub, Nat.reduceMul, Nat.reduceEqDiff, Int.reduceEq, Int.reduceLT, Int.reduceLE, Int.reduceAdd, Int.reduceSub, Int.reduceNeg, Int.reduceGT, Int.reduceGE, Int.reduceNe, ne_eq, not_false_eq_true, Exp.enc, TNode.cells, Dec.zero, Exp.zero, Pat.zero, Fun.zero, Case.zero, Con.zero, Ty.zero, Con.cells, TNode.enc, nodesExp, Exp.at_, Exp.kids, Exp.cases] at this ⊢
      exact this
    · obtain ⟨k, a, nm, p, l, nb, c, cb, f, fb⟩ := d
      simp only [Dec.size] at h h'
      have hl := Con.len_sizes l
      have hl2 := Case.len_sizes c
      have hl3 := Fun.len_sizes f
      have := ref05_OfDec_l0_loop (.mk k a nm p l nb c cb f fb) (by simp only [Dec.case]; omega) (by simp only [Dec.funs]; omega) (by simp only [Dec.cons]; omega) (fun t ht => by
        have h2 := Fun.mem_sizes ht
        obtain ⟨nm, a, c'⟩ := t
        simp only [Dec.funs, Fun.size] at h2
        exact hcase1 c' (by omega) (by omega)) s c [] [.dec inn (.mk k a nm p l nb c cb f fb)] (.full [(TNode.dec inn (.mk k a nm p l nb c cb f fb)).enc]) s 0 (AccR.full _ _ _) rfl rfl (hcase c (by omega) (by omega)) (by simp only [List.length_singleton, Dec.funs, Dec.cons]; omega)
      rw [ref05_OfDec_eq]; simp only [go_sem, Nat.reduceAdd, Nat.reduceLeDiff, Nat.reduceSub, Nat.reduceMul, Nat.reduceEqDiff, Int.reduceEq, Int.reduceLT, Int.reduceLE, Int.reduceAdd, Int.reduceSub, Int.reduceNeg, Int.reduceGT, Int.reduceGE, Int.reduceNe, ne_eq, not_false_eq_true, Dec.enc, TNode.cells, Dec.zero, Exp.zero, Pat.zero, Fun.zero, Case.zero, Con.zero, Ty.zero, Con.cells, TNode.enc, nodesDec, Dec.at_, Dec.funs, Dec.cons] at this ⊢
      exact this

theorem ref05_OfExp_spec (e : Exp) (s : St) (h : e.size < 2^26) : Nodes (cw (.f F_ref05_OfExp) [e.enc] s) s (nodesExp e) := (ref05_of_all e.size).1 e (Nat.le_refl _) h s

theorem ref05_Of_loop (L : List Dec) (z : Slot) (hz : z.list? = some (L.map Dec.enc)) (hl : L.length < 2^40) (s0 : St) : ∀ (suf pre : List Dec) (A : List TNode) (x : Slot) (s : St) (i : Nat), NAcc s0 s x A → pre ++ suf = L → i = pre.length → A.length + Dec.sizes suf < 2^26 →
    Nodes (ref05_Of_l0 z x (.val (.int .i64 i)) s) s0 (A ++ nodesDecs false suf)
  | [], pre, A, x, s, i, hx, h, hi, hb => by
    subst hi
    rw [ref05_Of_l0_eq]; simp only [go_sem, Nat.reduceAdd, Nat.reduceLeDiff, Nat.reduceSub, Nat.reduceMul, Nat.reduceEqDiff, Int.reduceEq, Int.reduceLT, Int.reduceLE, Int.reduceAdd, Int.reduceSub, Int.reduceNeg, Int.reduceGT, Int.reduceGE, Int.reduceNe, ne_eq, not_false_eq_true, hz, end_facts (by simpa using h), nodesDecs]
    exact RetA.mk hx
  | u :: suf, pre, A, x, s, i, hx, h, hi, hb => by
    subst hi
    obtain ⟨f1, f2, f3⟩ := step_facts hz h (by omega) (Dec.cells_len u) (by decide)
    simp only [Dec.sizes] at hb
    obtain ⟨y, s1, e1, g1⟩ := (ref05_of_all u.size).2 u (Nat.le_refl _) (by omega) false s
    have hlen := nodesDec_len false u
    obtain ⟨x', s2, e2, g2⟩ := nacc (hx.move g1.grew) g1.list? (by omega)
    have := ref05_Of_loop L z hz hl s0 suf (pre ++ [u]) (A ++ nodesDec false u) x' s2 (pre.length + 1) g2 (by simpa using h) (by simp) (by rw [List.length_append]; omega)
    rw [ref05_Of_l0_eq]; simp only [go_sem, Nat.reduceAdd, Nat.reduceLeDiff, Nat.reduceSub, Nat.reduceMul, Nat.reduceEqDiff, Int.reduceEq, Int.reduceLT, Int.reduceLE, Int.reduceAdd, Int.reduceSub, Int.reduceNeg, Int.reduceGT, Int.reduceGE, Int.reduceNe, ne_eq, not_false_eq_true, hz, f1, f2, f3, e1, e2, nodesDecs] at this ⊢
    exact this

theorem ref05_Of_spec (l : List Dec) (nl : Bool) (s : St) (h : Dec.sizes l < 2^26) : Nodes (cw (.f F_ref05_Of) [encS nl (l.map Dec.enc)] s) s (nodesDecs false l) := by
  have hl := Dec.len_sizes l
  have := ref05_Of_loop l (.val (encS nl (l.map Dec.enc))) (by simp only [go_sem, Nat.reduceAdd, Nat.reduceLeDiff, Nat.reduceSub, Nat.reduceMul, Nat.reduceEqDiff, Int.reduceEq, Int.reduceLT, Int.reduceLE, Int.reduceAdd, Int.reduceSub, Int.reduceNeg, Int.reduceGT, Int.reduceGE, Int.reduceNe, ne_eq, not_false_eq_true]) (by omega) s l [] [] (.val .nils) s 0 (AccR.nil _ _) rfl rfl (by simp only [List.length_nil]; omega)
  rw [ref05_Of_eq]
  exact this

end Go.Proofs.Ytemfpnlpnmglfaa
