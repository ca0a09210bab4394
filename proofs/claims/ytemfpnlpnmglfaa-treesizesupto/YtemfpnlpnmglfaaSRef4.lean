/- The document's answer for the tree layer: how deep. -/
import Derived.Test.YtemfpnlpnmglfaaPTree
import Derived.Test.YtemfpnlpnmglfaaG
set_option linter.unusedVariables false
set_option linter.unusedSimpArgs false
namespace Go.Proofs.Ytemfpnlpnmglfaa
open Go Go.Am
set_option maxRecDepth 4000

theorem ref05_deepTy_loop (t : Ty) (hl : t.args.length < 2^40) : ∀ (suf pre : List Ty) (n : Int) (s : St) (i : Nat), pre ++ suf = t.args → i = pre.length → (∀ t ∈ suf, ∀ s, cw (.f F_ref05_deepTy) [t.enc] s = some (.ret (.val (.int .i64 (deepTy t))), s)) → 0 ≤ n → n < 2^40 → Ty.sizes suf < 2^40 →
    ref05_deepTy_l0 (t.cells.map .val) (.val (.int .i64 n)) (.val (.int .i64 i)) s = some (.ret (.val (.int .i64 (deepTys suf n + 1))), s)
  | [], pre, n, s, i, h, hi, H, h0, h1, h2 => by
    subst hi
    rw [ref05_deepTy_l0_eq]; simp only [go_sem, Nat.reduceAdd, Nat.reduceLeDiff, Nat.reduceSub, Nat.reduceMul, Nat.reduceEqDiff, Int.reduceEq, Int.reduceLT, Int.reduceLE, Int.reduceAdd, Int.reduceSub, Int.reduceNeg, Int.reduceGT, Int.reduceGE, Int.reduceNe, ne_eq, not_false_eq_true, Ty.cells_eq, end_facts (by simpa using h)]
    rw [wrap64 (by omega) (by omega)]; rfl
  | u :: suf, pre, n, s, i, h, hi, H, h0, h1, h2 => by
    subst hi
    obtain ⟨f1, f2, f3⟩ := step_facts (x := .val (encS t.nl (t.args.map Ty.enc))) (list?_encS _ _) h (by omega) (Ty.cells_len u) (by decide)
    have ht := deepTy_le u
    have hm := maxI_le n (deepTy u) (2^40 - 1)
    have hn := le_maxI n (deepTy u)
    simp only [Ty.sizes] at h2
    have := ref05_deepTy_loop t hl suf (pre ++ [u]) (maxI n (deepTy u)) s (pre.length + 1) (by simpa using h) (by simp) (fun w hw => H w (List.mem_cons_of_mem _ hw)) (by omega) (by omega) (by omega)
    rw [ref05_deepTy_l0_eq]; rw [Ty.cells_eq] at this ⊢; simp only [go_sem, Nat.reduceAdd, Nat.reduceLeDiff, Nat.reduceSub, Nat.reduceMul, Nat.reduceEqDiff, Int.reduceEq, Int.reduceLT, Int.reduceLE, Int.reduceAdd, Int.reduceSub, Int.reduceNeg, Int.reduceGT, Int.reduceGE, Int.reduceNe, ne_eq, not_false_eq_true, f1, f2, f3, H u (List.mem_cons_self)] at this ⊢
    exact this

theorem ref05_deepTy_spec : ∀ (m : Nat) (t : Ty) (s : St), t.size ≤ m → t.size < 2^40 → cw (.f F_ref05_deepTy) [t.enc] s = some (.ret (.val (.int .i64 (deepTy t))), s)
  | 0, .mk _ _ _ _ _, _, h, _ => by simp only [Ty.size] at h; omega
  | m + 1, .mk k n nm l nl, s, h, h' => by
    simp only [Ty.size] at h h'
    have hl := Ty.len_sizes l
    have := ref05_deepTy_loop (.mk k n nm l nl) (by simp only [Ty.args]; omega) l [] 0 s 0 rfl rfl (fun u hu s => by have := Ty.mem_sizes hu; exact ref05_deepTy_spec m u s (by omega) (by omega)) (by decide) (by decide) (by omega)
    rw [ref05_deepTy_eq]; simp only [go_sem, Nat.reduceAdd, Nat.reduceLeDiff, Nat.reduceSub, Nat.reduceMul, Nat.reduceEqDiff, Int.reduceEq, Int.reduceLT, Int.reduceLE, Int.reduceAdd, Int.reduceSub, Int.reduceNeg, Int.reduceGT, Int.reduceGE, Int.reduceNe, ne_eq, not_false_eq_true, Ty.enc] at this ⊢
    exact this

theorem ref05_deepPat_loop (t : Pat) (hl : t.kids.length < 2^40) : ∀ (suf pre : List Pat) (n : Int) (s : St) (i : Nat), pre ++ suf = t.kids → i = pre.length → (∀ t ∈ suf, ∀ s, cw (.f F_ref05_deepPat) [t.enc] s = some (.ret (.val (.int .i64 (deepPat t))), s)) → 0 ≤ n → n < 2^40 → Pat.sizes suf < 2^40 →
    ref05_deepPat_l0 (t.cells.map .val) (.val (.int .i64 n)) (.val (.int .i64 i)) s = some (.ret (.val (.int .i64 (deepPats suf n + 1))), s)
  | [], pre, n, s, i, h, hi, H, h0, h1, h2 => by
    subst hi
    rw [ref05_deepPat_l0_eq]; simp only [go_sem, Nat.reduceAdd, Nat.reduceLeDiff, Nat.reduceSub, Nat.reduceMul, Nat.reduceEqDiff, Int.reduceEq, Int.reduceLT, Int.reduceLE, Int.reduceAdd, Int.reduceSub, Int.reduceNeg, Int.reduceGT, Int.reduceGE, Int.reduceNe, ne_eq, not_false_eq_true, Pat.cells_eq, end_facts (by simpa using h)]
    rw [wrap64 (by omega) (by omega)]; rfl
  | u :: suf, pre, n, s, i, h, hi, H, h0, h1, h2 => by
    subst hi
    obtain ⟨f1, f2, f3⟩ := step_facts (x := .val (encS t.kb (t.kids.map Pat.enc))) (list?_encS _ _) h (by omega) (Pat.cells_len u) (by decide)
    have ht := deepPat_le u
    have hm := maxI_le n (deepPat u) (2^40 - 1)
    have hn := le_maxI n (deepPat u)
    simp only [Pat.sizes] at h2
    have := ref05_deepPat_loop t hl suf (pre ++ [u]) (maxI n (deepPat u)) s (pre.length + 1) (by simpa using h) (by simp) (fun w hw => H w (List.mem_cons_of_mem _ hw)) (by omega) (by omega) (by omega)
    rw [ref05_deepPat_l0_eq]; rw [Pat.cells_eq] at this ⊢; simp only [go_sem, Nat.reduceAdd, Nat.reduceLeDiff, Nat.reduceSub, Nat.reduceMul, Nat.reduceEqDiff, Int.reduceEq, Int.reduceLT, Int.reduceLE, Int.reduceAdd, Int.reduceSub, Int.reduceNeg, Int.reduceGT, Int.reduceGE, Int.reduceNe, ne_eq, not_false_eq_true, f1, f2, f3, H u (List.mem_cons_self)] at this ⊢
    exact this

theorem ref05_deepPat_spec : ∀ (m : Nat) (t : Pat) (s : St), t.size ≤ m → t.size < 2^40 → cw (.f F_ref05_deepPat) [t.enc] s = some (.ret (.val (.int .i64 (deepPat t))), s)
  | 0, .mk _ _ _ _ _ _, _, h, _ => by simp only [Pat.size] at h; omega
  | m + 1, .mk k a nm n l nl, s, h, h' => by
    simp only [Pat.size] at h h'
    have hl := Pat.len_sizes l
    have := ref05_deepPat_loop (.mk k a nm n l nl) (by simp only [Pat.kids]; omega) l [] 0 s 0 rfl rfl (fun u hu s => by have := Pat.mem_sizes hu; exact ref05_deepPat_spec m u s (by omega) (by omega)) (by decide) (by decide) (by omega)
    rw [ref05_deepPat_eq]; simp only [go_sem, Nat.reduceAdd, Nat.reduceLeDiff, Nat.reduceSub, Nat.reduceMul, Nat.reduceEqDiff, Int.reduceEq, Int.reduceLT, Int.reduceLE, Int.reduceAdd, Int.reduceSub, Int.reduceNeg, Int.reduceGT, Int.reduceGE, Int.reduceNe, ne_eq, not_false_eq_true, Pat.enc] at this ⊢
    exact this

def rdeepExpOK (t : Exp) : Prop := ∀ s, cw (.f F_ref05_DeepExp) [t.enc] s = some (.ret (.val (.int .i64 (deepExp t))), s)
def rdeepDecsOK (l : List Dec) : Prop := ∀ (v : AV) (s : St), (Slot.val v).list? = some (l.map Dec.enc) → cw (.f F_ref05_Deep) [v] s = some (.ret (.val (.int .i64 (deepDecs l 0))), s)

theorem ref05_DeepExp_l1_loop (t : Exp) (hl : t.cases.length < 2^40) : ∀ (suf pre : List Case) (n : Int) (s : St) (i : Nat), pre ++ suf = t.cases → i = pre.length → (∀ c ∈ suf, rdeepExpOK c.exp) → 0 ≤ n → n < 2^40 → Case.sizes suf < 2^40 →
    ref05_DeepExp_l1 (t.cells.map .val) (.val (.int .i64 n)) (.val (.int .i64 i)) s = some (.ret (.val (.int .i64 (deepCases suf n + 1))), s)
  | [], pre, n, s, i, h, hi, H, h0, h1, h2 => by
    subst hi
    rw [ref05_DeepExp_l1_eq]; simp only [go_sem, Nat.reduceAdd, Nat.reduceLeDiff, Nat.reduceSub, Nat.reduceMul, Nat.reduceEqDiff, Int.reduceEq, Int.reduceLT, Int.reduceLE, Int.reduceAdd, Int.reduceSub, Int.reduceNeg, Int.reduceGT, Int.reduceGE, Int.reduceNe, ne_eq, not_false_eq_true, Exp.cells_eq, end_facts (by simpa using h)]
    rw [wrap64 (by omega) (by omega)]; rfl
  | .mk p e :: suf, pre, n, s, i, h, hi, H, h0, h1, h2 => by
    subst hi
    obtain ⟨f1, f2, f3⟩ := step_facts (x := .val (encS t.cb (t.cases.map Case.enc))) (list?_encS _ _) h (by omega) (Case.cells_len (.mk p e)) (by decide)
    have ht := deepExp_le e
    have hp := deepPat_le p
    simp only [Case.sizes, Case.size] at h2
    have h4 := le_maxI n (deepPat p)
    have h5 := le_maxI (maxI n (deepPat p)) (deepExp e)
    have h6 := maxI_le n (deepPat p) (2^40 - 1) (by omega) (by omega)
    have h7 := maxI_le (maxI n (deepPat p)) (deepExp e) (2^40 - 1) (by omega) (by omega)
    have He : rdeepExpOK e := H (.mk p e) (List.mem_cons_self)
    have := ref05_DeepExp_l1_loop t hl suf (pre ++ [.mk p e]) (maxI (maxI n (deepPat p)) (deepExp e)) s (pre.length + 1) (by simpa using h) (by simp) (fun w hw => H w (List.mem_cons_of_mem _ hw)) (by omega) (by omega) (by omega)
    rw [ref05_DeepExp_l1_eq]; rw [Exp.cells_eq] at this ⊢; simp only [go_sem, Nat.reduceAdd, Nat.reduceLeDiff, Nat.reduceSub, Nat.reduceMul, Nat.reduceEqDiff, Int.reduceEq, Int.reduceLT, Int.reduceLE, Int.reduceAdd, Int.reduceSub, Int.reduceNeg, Int.reduceGT, Int.reduceGE, Int.reduceNe, ne_eq, not_false_eq_true, f1, f2, f3, ref05_deepPat_spec _ p _ (Nat.le_refl _) (show p.size < 2^40 by omega), He s] at this ⊢
    exact this

theorem ref05_DeepExp_l0_loop (t : Exp) (hl : t.kids.length < 2^40) (hl2 : t.cases.length < 2^40) (hc : Case.sizes t.cases < 2^40) (Hc : ∀ c ∈ t.cases, rdeepExpOK c.exp) : ∀ (suf pre : List Exp) (n : Int) (s : St) (i : Nat), pre ++ suf = t.kids → i = pre.length → (∀ c ∈ suf, rdeepExpOK c) → 0 ≤ n → n < 2^40 → Exp.sizes suf < 2^40 →
    ref05_DeepExp_l0 (t.cells.map .val) (.val (.int .i64 n)) (.val (.int .i64 i)) s = some (.ret (.val (.int .i64 (deepCases t.cases (deepExps suf n) + 1))), s)
  | [], pre, n, s, i, h, hi, H, h0, h1, h2 => by
    subst hi
    have := ref05_DeepExp_l1_loop t hl2 t.cases [] n s 0 rfl rfl Hc h0 h1 hc
    rw [ref05_DeepExp_l0_eq]; rw [Exp.cells_eq] at this ⊢; simp only [go_sem, Nat.reduceAdd, Nat.reduceLeDiff, Nat.reduceSub, Nat.reduceMul, Nat.reduceEqDiff, Int.reduceEq, Int.reduceLT, Int.reduceLE, Int.reduceAdd, Int.reduceSub, Int.reduceNeg, Int.reduceGT, Int.reduceGE, Int.reduceNe, ne_eq, not_false_eq_true, end_facts (by simpa using h)] at this ⊢
    exact this
  | e :: suf, pre, n, s, i, h, hi, H, h0, h1, h2 => by
    subst hi
    obtain ⟨f1, f2, f3⟩ := step_facts (x := .val (encS t.kb (t.kids.map Exp.enc))) (list?_encS _ _) h (by omega) (Exp.cells_len e) (by decide)
    have ht := deepExp_le e
    simp only [Exp.sizes] at h2
    have h4 := le_maxI n (deepExp e)
    have h6 := maxI_le n (deepExp e) (2^40 - 1) (by omega) (by omega)
    have He : rdeepExpOK e := H e (List.mem_cons_self)
    have := ref05_DeepExp_l0_loop t hl hl2 hc Hc suf (pre ++ [e]) (maxI n (deepExp e)) s (pre.length + 1) (by simpa using h) (by simp) (fun w hw => H w (List.mem_cons_of_mem _ hw)) (by omega) (by omega) (by omega)
    rw [ref05_DeepExp_l0_eq]; rw [Exp.cells_eq] at this ⊢; simp only [go_sem, Nat.reduceAdd, Nat.reduceLeDiff, Nat.reduceSub, Nat.reduceMul, Nat.reduceEqDiff, Int.reduceEq, Int.reduceLT, Int.reduceLE, Int.reduceAdd, Int.reduceSub, Int.reduceNeg, Int.reduceGT, Int.reduceGE, Int.reduceNe, ne_eq, not_false_eq_true, f1, f2, f3, He s] at this ⊢
    exact this

theorem ref05_Deep_l3_loop (d : Dec) (x0 : Slot) (j : Nat) (fx : ixS 7 x0 (.val (.int .i64 (j : Int))) = some (.val (.cp d.cells))) (n0 : Int) (hj : j < 2^40) (hl : d.cons.length < 2^40) : ∀ (suf pre : List Con) (n : Int) (s : St) (i : Nat), pre ++ suf = d.cons → i = pre.length → 0 ≤ n → n < 2^40 → Con.sizes suf < 2^40 →
    ref05_Deep_l3 x0 (.val (.int .i64 n0)) (.val (.int .i64 j)) (.val (.int .i64 n)) (.val (.int .i64 i)) s = ref05_Deep_l0 x0 (.val (.int .i64 (maxI n0 (deepCons suf n + 1)))) (.val (.int .i64 (j + 1 : Nat))) s
  | [], pre, n, s, i, h, hi, h0, h1, h2 => by
    subst hi
    rw [ref05_Deep_l3_eq]; simp only [go_sem, Nat.reduceAdd, Nat.reduceLeDiff, Nat.reduceSub, Nat.reduceMul, Nat.reduceEqDiff, Int.reduceEq, Int.reduceLT, Int.reduceLE, Int.reduceAdd, Int.reduceSub, Int.reduceNeg, Int.reduceGT, Int.reduceGE, Int.reduceNe, ne_eq, not_false_eq_true, fx, Dec.cells_eq, end_facts (by simpa using h)]
    rw [wrap64 (n := n + 1) (by omega) (by omega), wrap64 (by omega) (by omega)]; rfl
  | c :: suf, pre, n, s, i, h, hi, h0, h1, h2 => by
    subst hi
    obtain ⟨f1, f2, f3⟩ := step_facts (x := .val (encS d.nb (d.cons.map Con.enc))) (list?_encS _ _) h (by omega) (Con.cells_len c) (by decide)
    have ht := deepTy_le c.arg
    simp only [Con.sizes, Con.size] at h2
    have hm := maxI_le n (deepTy c.arg) (2^40 - 1)
    have hn := le_maxI n (deepTy c.arg)
    obtain ⟨nm, a, hs, arg⟩ := c
    dsimp only at ht hm hn h2
    rw [ref05_Deep_l3_eq]; simp only [go_sem, Nat.reduceAdd, Nat.reduceLeDiff, Nat.reduceSub, Nat.reduceMul, Nat.reduceEqDiff, Int.reduceEq, Int.reduceLT, Int.reduceLE, Int.reduceAdd, Int.reduceSub, Int.reduceNeg, Int.reduceGT, Int.reduceGE, Int.reduceNe, ne_eq, not_false_eq_true, fx, Dec.cells_eq, f1, f2, f3, Con.cells]
    cases hs with
    | false =>
      simp only [go_sem, Nat.reduceAdd, Nat.reduceLeDiff, Nat.reduceSub, Nat.reduceMul, Nat.reduceEqDiff, Int.reduceEq, Int.reduceLT, Int.reduceLE, Int.reduceAdd, Int.reduceSub, Int.reduceNeg, Int.reduceGT, Int.reduceGE, Int.reduceNe, ne_eq, not_false_eq_true]
      exact ref05_Deep_l3_loop d x0 j fx n0 hj hl suf (pre ++ [_]) n s _ (by simpa using h) (by simp) (by omega) (by omega) (by omega)
    | true =>
      simp only [go_sem, Nat.reduceAdd, Nat.reduceLeDiff, Nat.reduceSub, Nat.reduceMul, Nat.reduceEqDiff, Int.reduceEq, Int.reduceLT, Int.reduceLE, Int.reduceAdd, Int.reduceSub, Int.reduceNeg, Int.reduceGT, Int.reduceGE, Int.reduceNe, ne_eq, not_false_eq_true, ref05_deepTy_spec _ arg _ (Nat.le_refl _) (show arg.size < 2^40 by omega)]
      exact ref05_Deep_l3_loop d x0 j fx n0 hj hl suf (pre ++ [_]) _ s _ (by simpa using h) (by simp) (by omega) (by omega) (by omega)

theorem ref05_Deep_l2_loop (d : Dec) (x0 : Slot) (j : Nat) (fx : ixS 7 x0 (.val (.int .i64 (j : Int))) = some (.val (.cp d.cells))) (n0 : Int) (hj : j < 2^40) (hl : d.funs.length < 2^40) (hl3 : d.cons.length < 2^40) (hc : Con.sizes d.cons < 2^40) : ∀ (suf pre : List Fun) (n : Int) (s : St) (i : Nat), pre ++ suf = d.funs → i = pre.length → (∀ f ∈ suf, rdeepExpOK f.case.exp) → 0 ≤ n → n < 2^40 → Fun.sizes suf < 2^40 →
    ref05_Deep_l2 x0 (.val (.int .i64 n0)) (.val (.int .i64 j)) (.val (.int .i64 n)) (.val (.int .i64 i)) s = ref05_Deep_l0 x0 (.val (.int .i64 (maxI n0 (deepCons d.cons (deepFuns suf n) + 1)))) (.val (.int .i64 (j + 1 : Nat))) s
  | [], pre, n, s, i, h, hi, H, h0, h1, h2 => by
    subst hi
    have := ref05_Deep_l3_loop d x0 j fx n0 hj hl3 d.cons [] n s 0 rfl rfl h0 h1 hc
    rw [ref05_Deep_l2_eq]; simp only [go_sem, Nat.reduceAdd, Nat.reduceLeDiff, Nat.reduceSub, Nat.reduceMul, Nat.reduceEqDiff, Int.reduceEq, Int.reduceLT, Int.reduceLE, Int.reduceAdd, Int.reduceSub, Int.reduceNeg, Int.reduceGT, Int.reduceGE, Int.reduceNe, ne_eq, not_false_eq_true, fx, Dec.cells_eq, end_facts (by simpa using h)]
    exact this
  | .mk nm a (.mk p e) :: suf, pre, n, s, i, h, hi, H, h0, h1, h2 => by
    subst hi
    obtain ⟨f1, f2, f3⟩ := step_facts (x := .val (encS d.fb (d.funs.map Fun.enc))) (list?_encS _ _) h (by omega) (Fun.cells_len (.mk nm a (.mk p e))) (by decide)
    have ht := deepExp_le e
    have hp := deepPat_le p
    simp only [Fun.sizes, Fun.size, Case.size] at h2
    have h4 := le_maxI n (deepPat p)
    have h5 := le_maxI (maxI n (deepPat p)) (deepExp e)
    have h6 := maxI_le n (deepPat p) (2^40 - 1) (by omega) (by omega)
    have h7 := maxI_le (maxI n (deepPat p)) (deepExp e) (2^40 - 1) (by omega) (by omega)
    have ha := deepCase_alt (.mk p e) n h0
    simp only [Case.pat, Case.exp] at ha
    have He : rdeepExpOK e := H (.mk nm a (.mk p e)) (List.mem_cons_self)
    have := ref05_Deep_l2_loop d x0 j fx n0 hj hl hl3 hc suf (pre ++ [_]) (maxI (maxI n (deepPat p)) (deepExp e)) s (pre.length + 1) (by simpa using h) (by simp) (fun w hw => H w (List.mem_cons_of_mem _ hw)) (by omega) (by omega) (by omega)
    rw [ref05_Deep_l2_eq]; simp only [go_sem, Nat.reduceAdd, Nat.reduceLeDiff, Nat.reduceSub, Nat.reduceMul, Nat.reduceEqDiff, Int.reduceEq, Int.reduceLT, Int.reduceLE, Int.reduceAdd, Int.reduceSub, Int.reduceNeg, Int.reduceGT, Int.reduceGE, Int.reduceNe, ne_eq, not_false_eq_true, fx, Dec.cells_eq, f1, f2, f3, ref05_deepPat_spec _ p _ (Nat.le_refl _) (show p.size < 2^40 by omega), He s]
    simp only [deepFuns]
    rw [← ha]
    exact this

theorem ref05_Deep_l1_loop (d : Dec) (x0 : Slot) (j : Nat) (fx : ixS 7 x0 (.val (.int .i64 (j : Int))) = some (.val (.cp d.cells))) (n0 : Int) (hj : j < 2^40) (hl : d.case.length < 2^40) (hl2 : d.funs.length < 2^40) (hl3 : d.cons.length < 2^40) (hc : Con.sizes d.cons < 2^40) (hf : Fun.sizes d.funs < 2^40) (HF : ∀ f ∈ d.funs, rdeepExpOK f.case.exp) : ∀ (suf pre : List Case) (n : Int) (s : St) (i : Nat), pre ++ suf = d.case → i = pre.length → (∀ f ∈ suf, rdeepExpOK f.exp) → 0 ≤ n → n < 2^40 → Case.sizes suf < 2^40 →
    ref05_Deep_l1 x0 (.val (.int .i64 n0)) (.val (.int .i64 j)) (.val (.int .i64 n)) (.val (.int .i64 i)) s = ref05_Deep_l0 x0 (.val (.int .i64 (maxI n0 (deepCons d.cons (deepFuns d.funs (deepCases suf n)) + 1)))) (.val (.int .i64 (j + 1 : Nat))) s
  | [], pre, n, s, i, h, hi, H, h0, h1, h2 => by
    subst hi
    have := ref05_Deep_l2_loop d x0 j fx n0 hj hl2 hl3 hc d.funs [] n s 0 rfl rfl HF h0 h1 hf
    rw [ref05_Deep_l1_eq]; simp only [go_sem, Nat.reduceAdd, Nat.reduceLeDiff, Nat.reduceSub, Nat.reduceMul, Nat.reduceEqDiff, Int.reduceEq, Int.reduceLT, Int.reduceLE, Int.reduceAdd, Int.reduceSub, Int.reduceNeg, Int.reduceGT, Int.reduceGE, Int.reduceNe, ne_eq, not_false_eq_true, fx, Dec.cells_eq, end_facts (by simpa using h)]
    exact this
  | .mk p e :: suf, pre, n, s, i, h, hi, H, h0, h1, h2 => by
    subst hi
    obtain ⟨f1, f2, f3⟩ := step_facts (x := .val (encS d.cb (d.case.map Case.enc))) (list?_encS _ _) h (by omega) (Case.cells_len (.mk p e)) (by decide)
    have ht := deepExp_le e
    have hp := deepPat_le p
    simp only [Case.sizes, Case.size] at h2
    have h4 := le_maxI n (deepPat p)
    have h5 := le_maxI (maxI n (deepPat p)) (deepExp e)
    have h6 := maxI_le n (deepPat p) (2^40 - 1) (by omega) (by omega)
    have h7 := maxI_le (maxI n (deepPat p)) (deepExp e) (2^40 - 1) (by omega) (by omega)
    have He : rdeepExpOK e := H (.mk p e) (List.mem_cons_self)
    have := ref05_Deep_l1_loop d x0 j fx n0 hj hl hl2 hl3 hc hf HF suf (pre ++ [_]) (maxI (maxI n (deepPat p)) (deepExp e)) s (pre.length + 1) (by simpa using h) (by simp) (fun w hw => H w (List.mem_cons_of_mem _ hw)) (by omega) (by omega) (by omega)
    rw [ref05_Deep_l1_eq]; simp only [go_sem, Nat.reduceAdd, Nat.reduceLeDiff, Nat.reduceSub, Nat.reduceMul, Nat.reduceEqDiff, Int.reduceEq, Int.reduceLT, Int.reduceLE, Int.reduceAdd, Int.reduceSub, Int.reduceNeg, Int.reduceGT, Int.reduceGE, Int.reduceNe, ne_eq, not_false_eq_true, fx, Dec.cells_eq, f1, f2, f3, ref05_deepPat_spec _ p _ (Nat.le_refl _) (show p.size < 2^40 by omega), He s]
    exact this

theorem ref05_Deep_loop (L : List Dec) (x : Slot) (hx : x.list? = some (L.map Dec.enc)) (hl : L.length < 2^40) : ∀ (suf pre : List Dec) (n : Int) (s : St) (i : Nat), pre ++ suf = L → i = pre.length → (∀ d ∈ suf, (∀ c ∈ d.case, rdeepExpOK c.exp) ∧ ∀ f ∈ d.funs, rdeepExpOK f.case.exp) → 0 ≤ n → n < 2^40 → Dec.sizes suf < 2^40 →
    ref05_Deep_l0 x (.val (.int .i64 n)) (.val (.int .i64 i)) s = some (.ret (.val (.int .i64 (deepDecs suf n))), s)
  | [], pre, n, s, i, h, hi, H, h0, h1, h2 => by
    subst hi
    rw [ref05_Deep_l0_eq]; simp only [go_sem, Nat.reduceAdd, Nat.reduceLeDiff, Nat.reduceSub, Nat.reduceMul, Nat.reduceEqDiff, Int.reduceEq, Int.reduceLT, Int.reduceLE, Int.reduceAdd, Int.reduceSub, Int.reduceNeg, Int.reduceGT, Int.reduceGE, Int.reduceNe, ne_eq, not_false_eq_true, hx, end_facts (by simpa using h)]; rfl
  | .mk k a nm p l nb c cb f fb :: suf, pre, n, s, i, h, hi, H, h0, h1, h2 => by
    subst hi
    obtain ⟨f1, f2, f3⟩ := step_facts hx h (by omega) (Dec.cells_len (.mk k a nm p l nb c cb f fb)) (by decide)
    obtain ⟨hC, hF⟩ := H (.mk k a nm p l nb c cb f fb) (List.mem_cons_self)
    simp only [Dec.sizes, Dec.size] at h2
    have g1 := deepCases_le c 0
    have g2 := deepFuns_le f (deepCases c 0)
    have g3 := deepCons_le l (deepFuns f (deepCases c 0))
    have g5 := le_maxI n (deepCons l (deepFuns f (deepCases c 0)) + 1)
    have g6 := maxI_le n (deepCons l (deepFuns f (deepCases c 0)) + 1) (2^40 - 1) (by omega) (by omega)
    have g7 := Fun.len_sizes f
    have g8 := Case.len_sizes c
    have g9 := Con.len_sizes l
    have hlen : pre.length < L.length := by rw [← h]; simp
    have := ref05_Deep_l1_loop (.mk k a nm p l nb c cb f fb) x pre.length f2 n (by omega) (by simp only [Dec.case]; omega) (by simp only [Dec.funs]; omega) (by simp only [Dec.cons]; omega) (by simp only [Dec.cons]; omega) (by simp only [Dec.funs]; omega) hF c [] 0 s 0 rfl rfl hC (by decide) (by decide) (by omega)
    rw [show ((0 : Nat) : Int) = 0 from rfl] at this
    rw [ref05_Deep_l0_eq]; simp only [go_sem, Nat.reduceAdd, Nat.reduceLeDiff, Nat.reduceSub, Nat.reduceMul, Nat.reduceEqDiff, Int.reduceEq, Int.reduceLT, Int.reduceLE, Int.reduceAdd, Int.reduceSub, Int.reduceNeg, Int.reduceGT, Int.reduceGE, Int.reduceNe, ne_eq, not_false_eq_true, hx, f1, f2, this]
    exact ref05_Deep_loop L x hx hl suf (pre ++ [_]) _ s _ (by simpa using h) (by simp) (fun u hu => H u (List.mem_cons_of_mem _ hu)) (by simp only [Dec.cons, Dec.funs]; omega) (by simp only [Dec.cons, Dec.funs]; omega) (by omega)

theorem ref05_deep_all : ∀ m : Nat, (∀ e : Exp, e.size ≤ m → e.size < 2^40 → rdeepExpOK e) ∧ (∀ l : List Dec, Dec.sizes l ≤ m → Dec.sizes l < 2^40 → rdeepDecsOK l) := by
  intro m
  induction m with
  | zero =>
    refine ⟨fun e h _ => ?_, fun l h _ v s hv => ?_⟩
    · obtain ⟨k, a, nm, n, l, lb, c, cb, d, db⟩ := e
      simp only [Exp.size] at h; omega
    · cases l with
      | cons c l => obtain ⟨k, a, nm, p, l, nb, c, cb, f, fb⟩ := c; simp only [Dec.sizes, Dec.size] at h; omega
      | nil =>
        rw [ref05_Deep_eq]
        exact ref05_Deep_loop [] _ hv (by decide) [] [] 0 s 0 rfl rfl (by simp) (by decide) (by decide) (by simp only [Dec.sizes]; decide)
  | succ m ih =>
    obtain ⟨ihE, ihD⟩ := ih
    have hcase : ∀ (c : List Case), Case.sizes c ≤ m + 1 → Case.sizes c < 2^40 → ∀ t ∈ c, rdeepExpOK t.exp := fun c h h' t ht => by
      have := Case.mem_sizes ht
      obtain ⟨p, e⟩ := t
      simp only [Case.size] at this
      exact ihE e (by omega) (by omega)
    refine ⟨fun e h h' s => ?_, fun l h h' v s hv => ?_⟩
    · obtain ⟨k, a, nm, n, l, lb, c, cb, d, db⟩ := e
      simp only [Exp.size] at h h'
      have hl := Exp.len_sizes l
      have hl2 := Case.len_sizes c
      have g1 := deepDecs_le d 0
      have hD := fun s => ihD d (by omega) (by omega) (encS db (d.map Dec.enc)) s (by simp only [go_sem, Nat.reduceAdd, Nat.reduceLeDiff, Nat.reduceSub, Nat.reduceMul, Nat.reduceEqDiff, Int.reduceEq, Int.reduceLT, Int.reduceLE, Int.reduceAdd, Int.reduceSub, Int.reduceNeg, Int.reduceGT, Int.reduceGE, Int.reduceNe, ne_eq, not_false_eq_true])
      have := ref05_DeepExp_l0_loop (.mk k a nm n l lb c cb d db) (by simp only [Exp.kids]; omega) (by simp only [Exp.cases]; omega) (by simp only [Exp.cases]; omega) (hcase c (by omega) (by omega)) l [] (deepDecs d 0) s 0 rfl rfl (fun t ht => ihE t (by have := Exp.mem_sizes ht; omega) (by have := Exp.mem_sizes ht; omega)) (by omega) (by omega) (by omega)
      rw [ref05_DeepExp_eq]; simp only [go_sem, Nat.reduceAdd, Nat.reduceLeDiff, Nat.reduceSub, Nat.reduceMul, Nat.reduceEqDiff, Int.reduceEq, Int.reduceLT, Int.reduceLE, Int.reduceAdd, Int.reduceSub, Int.reduceNeg, Int.reduceGT, Int.reduceGE, Int.reduceNe, ne_eq, not_false_eq_true, Exp.enc, hD] at this ⊢
      rw [show ((0 : Nat) : Int) = 0 from rfl] at this
      rw [this]
      simp only [Exp.cases, deepExp]
      rw [deepExp_alt]
    · have := Dec.len_sizes l
      rw [ref05_Deep_eq]
      refine ref05_Deep_loop l _ hv (by omega) l [] 0 s 0 rfl rfl (fun t ht => ?_) (by decide) (by decide) h'
      have h1 := Dec.mem_sizes ht
      obtain ⟨k, a, nm, p, l, nb, c, cb, f, fb⟩ := t
      simp only [Dec.size] at h1
      refine ⟨hcase c (by omega) (by omega), fun g hg => ?_⟩
      have h2 := Fun.mem_sizes hg
      obtain ⟨nm, a, ⟨p, e⟩⟩ := g
      simp only [Dec.funs, Fun.size, Case.size] at h2
      exact ihE e (by omega) (by omega)

theorem ref05_DeepExp_spec (e : Exp) (s : St) (h : e.size < 2^40) : cw (.f F_ref05_DeepExp) [e.enc] s = some (.ret (.val (.int .i64 (deepExp e))), s) := (ref05_deep_all e.size).1 e (Nat.le_refl _) h s
theorem ref05_Deep_spec (l : List Dec) (nl : Bool) (s : St) (h : Dec.sizes l < 2^40) : cw (.f F_ref05_Deep) [encS nl (l.map Dec.enc)] s = some (.ret (.val (.int .i64 (deepDecs l 0))), s) := (ref05_deep_all (Dec.sizes l)).2 l (Nat.le_refl _) h _ s (by simp only [go_sem, Nat.reduceAdd, Nat.reduceLeDiff, Nat.reduceSub, Nat.reduceMul, Nat.reduceEqDiff, Int.reduceEq, Int.reduceLT, Int.reduceLE, Int.reduceAdd, Int.reduceSub, Int.reduceNeg, Int.reduceGT, Int.reduceGE, Int.reduceNe, ne_eq, not_false_eq_true])

end Go.Proofs.Ytemfpnlpnmglfaa
