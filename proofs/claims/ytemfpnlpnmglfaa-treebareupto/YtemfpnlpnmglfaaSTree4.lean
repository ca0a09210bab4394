/- The tree layer: how deep. -/
import Derived.Test.YtemfpnlpnmglfaaSTree1
set_option linter.unusedVariables false
set_option linter.unusedSimpArgs false
namespace Go.Proofs.Ytemfpnlpnmglfaa
open Go Go.Am
set_option maxRecDepth 4000

theorem tree_deepTy_loop (L : List Ty) (x : Slot) (hx : x.list? = some (L.map Ty.enc)) (hl : L.length < 2^40) : ∀ (suf pre : List Ty) (n : Int) (s : St) (i : Nat), pre ++ suf = L → i = pre.length → (∀ t ∈ suf, ∀ s, cw (.f F_tree_deepTy) [t.enc] s = some (.ret (.val (.int .i64 (deepTy t))), s)) → 0 ≤ n → n < 2^40 → Ty.sizes suf < 2^40 →
    tree_deepTy_l0 (.val (.int .i64 n)) x (.val (.int .i64 L.length)) (.val (.int .i64 i)) s = some (.ret (.val (.int .i64 (deepTys suf n + 1))), s)
  | [], pre, n, s, i, h, hi, H, h0, h1, h2 => by
    subst hi
    rw [tree_deepTy_l0_eq]; simp only [go_sem, Nat.reduceAdd, Nat.reduceLeDiff, Nat.reduceSub, Nat.reduceMul, Nat.reduceEqDiff, Int.reduceEq, Int.reduceLT, Int.reduceLE, Int.reduceAdd, Int.reduceSub, Int.reduceNeg, Int.reduceGT, Int.reduceGE, Int.reduceNe, ne_eq, not_false_eq_true, end_facts (by simpa using h)]
    rw [wrap64 (by omega) (by omega)]; rfl
  | t :: suf, pre, n, s, i, h, hi, H, h0, h1, h2 => by
    subst hi
    obtain ⟨f1, f2, f3⟩ := step_facts hx h (by omega) (Ty.cells_len t) (by decide)
    have ht := deepTy_le t
    have hm := maxI_le n (deepTy t) (2^40 - 1)
    have hn := le_maxI n (deepTy t)
    simp only [Ty.sizes] at h2
    rw [tree_deepTy_l0_eq]; simp only [go_sem, Nat.reduceAdd, Nat.reduceLeDiff, Nat.reduceSub, Nat.reduceMul, Nat.reduceEqDiff, Int.reduceEq, Int.reduceLT, Int.reduceLE, Int.reduceAdd, Int.reduceSub, Int.reduceNeg, Int.reduceGT, Int.reduceGE, Int.reduceNe, ne_eq, not_false_eq_true, f1, f2, f3, H t (List.mem_cons_self)]
    exact tree_deepTy_loop L x hx hl suf (pre ++ [t]) _ s _ (by simpa using h) (by simp) (fun u hu => H u (List.mem_cons_of_mem _ hu)) (by omega) (by omega) (by omega)

theorem tree_deepTy_spec : ∀ (m : Nat) (t : Ty) (s : St), t.size ≤ m → t.size < 2^40 → cw (.f F_tree_deepTy) [t.enc] s = some (.ret (.val (.int .i64 (deepTy t))), s)
  | 0, .mk _ _ _ _ _, _, h, _ => by simp only [Ty.size] at h; omega
  | m + 1, .mk k n nm l nl, s, h, h' => by
    simp only [Ty.size] at h h'
    have hl := Ty.len_sizes l
    rw [tree_deepTy_eq]; simp only [go_sem, Nat.reduceAdd, Nat.reduceLeDiff, Nat.reduceSub, Nat.reduceMul, Nat.reduceEqDiff, Int.reduceEq, Int.reduceLT, Int.reduceLE, Int.reduceAdd, Int.reduceSub, Int.reduceNeg, Int.reduceGT, Int.reduceGE, Int.reduceNe, ne_eq, not_false_eq_true, Ty.enc]
    exact tree_deepTy_loop l _ (by simp only [go_sem, Nat.reduceAdd, Nat.reduceLeDiff, Nat.reduceSub, Nat.reduceMul, Nat.reduceEqDiff, Int.reduceEq, Int.reduceLT, Int.reduceLE, Int.reduceAdd, Int.reduceSub, Int.reduceNeg, Int.reduceGT, Int.reduceGE, Int.reduceNe, ne_eq, not_false_eq_true]) (by omega) l [] 0 s 0 rfl rfl (fun u hu s => by have := Ty.mem_sizes hu; exact tree_deepTy_spec m u s (by omega) (by omega)) (by omega) (by omega) (by omega)

theorem tree_deepPat_loop (L : List Pat) (x : Slot) (hx : x.list? = some (L.map Pat.enc)) (hl : L.length < 2^40) : ∀ (suf pre : List Pat) (n : Int) (s : St) (i : Nat), pre ++ suf = L → i = pre.length → (∀ t ∈ suf, ∀ s, cw (.f F_tree_deepPat) [t.enc] s = some (.ret (.val (.int .i64 (deepPat t))), s)) → 0 ≤ n → n < 2^40 → Pat.sizes suf < 2^40 →
    tree_deepPat_l0 (.val (.int .i64 n)) x (.val (.int .i64 L.length)) (.val (.int .i64 i)) s = some (.ret (.val (.int .i64 (deepPats suf n + 1))), s)
  | [], pre, n, s, i, h, hi, H, h0, h1, h2 => by
    subst hi
    rw [tree_deepPat_l0_eq]; simp only [go_sem, Nat.reduceAdd, Nat.reduceLeDiff, Nat.reduceSub, Nat.reduceMul, Nat.reduceEqDiff, Int.reduceEq, Int.reduceLT, Int.reduceLE, Int.reduceAdd, Int.reduceSub, Int.reduceNeg, Int.reduceGT, Int.reduceGE, Int.reduceNe, ne_eq, not_false_eq_true, end_facts (by simpa using h)]
    rw [wrap64 (by omega) (by omega)]; rfl
  | t :: suf, pre, n, s, i, h, hi, H, h0, h1, h2 => by
    subst hi
    obtain ⟨f1, f2, f3⟩ := step_facts hx h (by omega) (Pat.cells_len t) (by decide)
    have ht := deepPat_le t
    have hm := maxI_le n (deepPat t) (2^40 - 1)
    have hn := le_maxI n (deepPat t)
    simp only [Pat.sizes] at h2
    rw [tree_deepPat_l0_eq]; simp only [go_sem, Nat.reduceAdd, Nat.reduceLeDiff, Nat.reduceSub, Nat.reduceMul, Nat.reduceEqDiff, Int.reduceEq, Int.reduceLT, Int.reduceLE, Int.reduceAdd, Int.reduceSub, Int.reduceNeg, Int.reduceGT, Int.reduceGE, Int.reduceNe, ne_eq, not_false_eq_true, f1, f2, f3, H t (List.mem_cons_self)]
    exact tree_deepPat_loop L x hx hl suf (pre ++ [t]) _ s _ (by simpa using h) (by simp) (fun u hu => H u (List.mem_cons_of_mem _ hu)) (by omega) (by omega) (by omega)

theorem tree_deepPat_spec : ∀ (m : Nat) (t : Pat) (s : St), t.size ≤ m → t.size < 2^40 → cw (.f F_tree_deepPat) [t.enc] s = some (.ret (.val (.int .i64 (deepPat t))), s)
  | 0, .mk _ _ _ _ _ _, _, h, _ => by simp only [Pat.size] at h; omega
  | m + 1, .mk k a nm n l nl, s, h, h' => by
    simp only [Pat.size] at h h'
    have hl := Pat.len_sizes l
    rw [tree_deepPat_eq]; simp only [go_sem, Nat.reduceAdd, Nat.reduceLeDiff, Nat.reduceSub, Nat.reduceMul, Nat.reduceEqDiff, Int.reduceEq, Int.reduceLT, Int.reduceLE, Int.reduceAdd, Int.reduceSub, Int.reduceNeg, Int.reduceGT, Int.reduceGE, Int.reduceNe, ne_eq, not_false_eq_true, Pat.enc]
    exact tree_deepPat_loop l _ (by simp only [go_sem, Nat.reduceAdd, Nat.reduceLeDiff, Nat.reduceSub, Nat.reduceMul, Nat.reduceEqDiff, Int.reduceEq, Int.reduceLT, Int.reduceLE, Int.reduceAdd, Int.reduceSub, Int.reduceNeg, Int.reduceGT, Int.reduceGE, Int.reduceNe, ne_eq, not_false_eq_true]) (by omega) l [] 0 s 0 rfl rfl (fun u hu s => by have := Pat.mem_sizes hu; exact tree_deepPat_spec m u s (by omega) (by omega)) (by omega) (by omega) (by omega)

def deepExpOK (t : Exp) : Prop := ∀ s, cw (.f F_tree_deepExp) [t.enc] s = some (.ret (.val (.int .i64 (deepExp t))), s)
def deepCasesOK (l : List Case) : Prop := ∀ (v : AV) (s : St), (Slot.val v).list? = some (l.map Case.enc) → cw (.f F_tree_deepCases) [v] s = some (.ret (.val (.int .i64 (deepCases l 0))), s)
def deepDecsOK (l : List Dec) : Prop := ∀ (v : AV) (s : St), (Slot.val v).list? = some (l.map Dec.enc) → cw (.f F_tree_deepDecs) [v] s = some (.ret (.val (.int .i64 (deepDecs l 0))), s)

theorem tree_deepExp_loop (L : List Exp) (x : Slot) (hx : x.list? = some (L.map Exp.enc)) (hl : L.length < 2^40) : ∀ (suf pre : List Exp) (n : Int) (s : St) (i : Nat), pre ++ suf = L → i = pre.length → (∀ t ∈ suf, deepExpOK t) → 0 ≤ n → n < 2^40 → Exp.sizes suf < 2^40 →
    tree_deepExp_l0 (.val (.int .i64 n)) x (.val (.int .i64 L.length)) (.val (.int .i64 i)) s = some (.ret (.val (.int .i64 (deepExps suf n + 1))), s)
  | [], pre, n, s, i, h, hi, H, h0, h1, h2 => by
    subst hi
    rw [tree_deepExp_l0_eq]; simp only [go_sem, Nat.reduceAdd, Nat.reduceLeDiff, Nat.reduceSub, Nat.reduceMul, Nat.reduceEqDiff, Int.reduceEq, Int.reduceLT, Int.reduceLE, Int.reduceAdd, Int.reduceSub, Int.reduceNeg, Int.reduceGT, Int.reduceGE, Int.reduceNe, ne_eq, not_false_eq_true, end_facts (by simpa using h)]
    rw [wrap64 (by omega) (by omega)]; rfl
  | t :: suf, pre, n, s, i, h, hi, H, h0, h1, h2 => by
    subst hi
    obtain ⟨f1, f2, f3⟩ := step_facts hx h (by omega) (Exp.cells_len t) (by decide)
    have ht := deepExp_le t
    have hm := maxI_le n (deepExp t) (2^40 - 1)
    have hn := le_maxI n (deepExp t)
    simp only [Exp.sizes] at h2
    rw [tree_deepExp_l0_eq]; simp only [go_sem, Nat.reduceAdd, Nat.reduceLeDiff, Nat.reduceSub, Nat.reduceMul, Nat.reduceEqDiff, Int.reduceEq, Int.reduceLT, Int.reduceLE, Int.reduceAdd, Int.reduceSub, Int.reduceNeg, Int.reduceGT, Int.reduceGE, Int.reduceNe, ne_eq, not_false_eq_true, f1, f2, f3, H t (List.mem_cons_self) s]
    exact tree_deepExp_loop L x hx hl suf (pre ++ [t]) _ s _ (by simpa using h) (by simp) (fun u hu => H u (List.mem_cons_of_mem _ hu)) (by omega) (by omega) (by omega)

theorem tree_deepCases_loop (L : List Case) (x : Slot) (hx : x.list? = some (L.map Case.enc)) (hl : L.length < 2^40) : ∀ (suf pre : List Case) (n : Int) (s : St) (i : Nat), pre ++ suf = L → i = pre.length → (∀ t ∈ suf, deepExpOK t.exp) → 0 ≤ n → n < 2^40 → Case.sizes suf < 2^40 →
    tree_deepCases_l0 (.val (.int .i64 n)) x (.val (.int .i64 L.length)) (.val (.int .i64 i)) s = some (.ret (.val (.int .i64 (deepCases suf n))), s)
  | [], pre, n, s, i, h, hi, H, h0, h1, h2 => by
    subst hi
    rw [tree_deepCases_l0_eq]; simp only [go_sem, Nat.reduceAdd, Nat.reduceLeDiff, Nat.reduceSub, Nat.reduceMul, Nat.reduceEqDiff, Int.reduceEq, Int.reduceLT, Int.reduceLE, Int.reduceAdd, Int.reduceSub, Int.reduceNeg, Int.reduceGT, Int.reduceGE, Int.reduceNe, ne_eq, not_false_eq_true, end_facts (by simpa using h)]; rfl
  | .mk p e :: suf, pre, n, s, i, h, hi, H, h0, h1, h2 => by
    subst hi
    obtain ⟨f1, f2, f3⟩ := step_facts hx h (by omega) (Case.cells_len (.mk p e)) (by decide)
    have ht := deepExp_le e
    have hp := deepPat_le p
    simp only [Case.sizes, Case.size] at h2
    have h4 := le_maxI n (deepPat p)
    have h5 := le_maxI (maxI n (deepPat p)) (deepExp e)
    have h6 := maxI_le n (deepPat p) (2^40 - 1) (by omega) (by omega)
    have h7 := maxI_le (maxI n (deepPat p)) (deepExp e) (2^40 - 1) (by omega) (by omega)
    have He : deepExpOK e := H (.mk p e) (List.mem_cons_self)
    rw [tree_deepCases_l0_eq]; simp only [go_sem, Nat.reduceAdd, Nat.reduceLeDiff, Nat.reduceSub, Nat.reduceMul, Nat.reduceEqDiff, Int.reduceEq, Int.reduceLT, Int.reduceLE, Int.reduceAdd, Int.reduceSub, Int.reduceNeg, Int.reduceGT, Int.reduceGE, Int.reduceNe, ne_eq, not_false_eq_true, f1, f2, f3, tree_deepPat_spec _ p _ (Nat.le_refl _) (show p.size < 2^40 by omega), He s]
    exact tree_deepCases_loop L x hx hl suf (pre ++ [.mk p e]) _ s _ (by simpa using h) (by simp) (fun u hu => H u (List.mem_cons_of_mem _ hu)) (by omega) (by omega) (by omega)

theorem tree_deepDecs_l2_loop (L : List Con) (x : Slot) (hx : x.list? = some (L.map Con.enc)) (hl : L.length < 2^40) (y1 x11 x12 : Slot) (n0 : Int) (j : Nat) : ∀ (suf pre : List Con) (n : Int) (s : St) (i : Nat), pre ++ suf = L → i = pre.length → 0 ≤ n → n < 2^40 → Con.sizes suf < 2^40 → j < 2^40 →
    tree_deepDecs_l2 (.val (.int .i64 n0)) (.val (.int .i64 n)) x11 x12 (.val (.int .i64 j)) x (.val (.int .i64 L.length)) (.val (.int .i64 i)) s = tree_deepDecs_l0 (.val (.int .i64 (maxI n0 (deepCons suf n + 1)))) x11 x12 (.val (.int .i64 (j + 1 : Nat))) s
  | [], pre, n, s, i, h, hi, h0, h1, h2, hj => by
    subst hi
    rw [tree_deepDecs_l2_eq]; simp only [go_sem, Nat.reduceAdd, Nat.reduceLeDiff, Nat.reduceSub, Nat.reduceMul, Nat.reduceEqDiff, Int.reduceEq, Int.reduceLT, Int.reduceLE, Int.reduceAdd, Int.reduceSub, Int.reduceNeg, Int.reduceGT, Int.reduceGE, Int.reduceNe, ne_eq, not_false_eq_true, end_facts (by simpa using h)]
    rw [wrap64 (n := n + 1) (by omega) (by omega), wrap64 (by omega) (by omega)]; rfl
  | c :: suf, pre, n, s, i, h, hi, h0, h1, h2, hj => by
    subst hi
    obtain ⟨f1, f2, f3⟩ := step_facts hx h (by omega) (Con.cells_len c) (by decide)
    have ht := deepTy_le c.arg
    simp only [Con.sizes, Con.size] at h2
    have hm := maxI_le n (deepTy c.arg) (2^40 - 1)
    have hn := le_maxI n (deepTy c.arg)
    obtain ⟨nm, a, hs, arg⟩ := c
    dsimp only at ht hm hn h2
    rw [tree_deepDecs_l2_eq]; simp only [go_sem, Nat.reduceAdd, Nat.reduceLeDiff, Nat.reduceSub, Nat.reduceMul, Nat.reduceEqDiff, Int.reduceEq, Int.reduceLT, Int.reduceLE, Int.reduceAdd, Int.reduceSub, Int.reduceNeg, Int.reduceGT, Int.reduceGE, Int.reduceNe, ne_eq, not_false_eq_true, f1, f2, f3, Con.cells]
    cases hs with
    | false =>
      simp only [go_sem, Nat.reduceAdd, Nat.reduceLeDiff, Nat.reduceSub, Nat.reduceMul, Nat.reduceEqDiff, Int.reduceEq, Int.reduceLT, Int.reduceLE, Int.reduceAdd, Int.reduceSub, Int.reduceNeg, Int.reduceGT, Int.reduceGE, Int.reduceNe, ne_eq, not_false_eq_true]
      exact tree_deepDecs_l2_loop L x hx hl y1 x11 x12 n0 j suf (pre ++ [_]) n s _ (by simpa using h) (by simp) (by omega) (by omega) (by omega) hj
    | true =>
      simp only [go_sem, Nat.reduceAdd, Nat.reduceLeDiff, Nat.reduceSub, Nat.reduceMul, Nat.reduceEqDiff, Int.reduceEq, Int.reduceLT, Int.reduceLE, Int.reduceAdd, Int.reduceSub, Int.reduceNeg, Int.reduceGT, Int.reduceGE, Int.reduceNe, ne_eq, not_false_eq_true, tree_deepTy_spec _ arg _ (Nat.le_refl _) (show arg.size < 2^40 by omega)]
      exact tree_deepDecs_l2_loop L x hx hl y1 x11 x12 n0 j suf (pre ++ [_]) _ s _ (by simpa using h) (by simp) (by omega) (by omega) (by omega) hj

theorem tree_deepDecs_l1_loop (L : List Fun) (x : Slot) (hx : x.list? = some (L.map Fun.enc)) (hl : L.length < 2^40) (d : Dec) (x11 x12 : Slot) (n0 : Int) (j : Nat) (hd : Con.sizes d.cons < 2^40) : ∀ (suf pre : List Fun) (n : Int) (s : St) (i : Nat), pre ++ suf = L → i = pre.length → (∀ t ∈ suf, deepCasesOK [t.case]) → 0 ≤ n → n < 2^40 → Fun.sizes suf < 2^40 → j < 2^40 →
    tree_deepDecs_l1 (.val (.int .i64 n0)) (d.cells.map .val) (.val (.int .i64 n)) x11 x12 (.val (.int .i64 j)) x (.val (.int .i64 L.length)) (.val (.int .i64 i)) s = tree_deepDecs_l0 (.val (.int .i64 (maxI n0 (deepCons d.cons (deepFuns suf n) + 1)))) x11 x12 (.val (.int .i64 (j + 1 : Nat))) s
  | [], pre, n, s, i, h, hi, H, h0, h1, h2, hj => by
    subst hi
    have hc := Con.len_sizes d.cons
    rw [tree_deepDecs_l1_eq]; simp only [go_sem, Nat.reduceAdd, Nat.reduceLeDiff, Nat.reduceSub, Nat.reduceMul, Nat.reduceEqDiff, Int.reduceEq, Int.reduceLT, Int.reduceLE, Int.reduceAdd, Int.reduceSub, Int.reduceNeg, Int.reduceGT, Int.reduceGE, Int.reduceNe, ne_eq, not_false_eq_true, end_facts (by simpa using h), Dec.cells_eq]
    exact tree_deepDecs_l2_loop d.cons _ (by simp only [go_sem, Nat.reduceAdd, Nat.reduceLeDiff, Nat.reduceSub, Nat.reduceMul, Nat.reduceEqDiff, Int.reduceEq, Int.reduceLT, Int.reduceLE, Int.reduceAdd, Int.reduceSub, Int.reduceNeg, Int.reduceGT, Int.reduceGE, Int.reduceNe, ne_eq, not_false_eq_true]) (by omega) x x11 x12 n0 j d.cons [] n s 0 rfl rfl h0 h1 hd hj
  | .mk nm a c :: suf, pre, n, s, i, h, hi, H, h0, h1, h2, hj => by
    subst hi
    obtain ⟨f1, f2, f3⟩ := step_facts hx h (by omega) (Fun.cells_len (.mk nm a c)) (by decide)
    have ht := deepCase_le c
    simp only [Fun.sizes, Fun.size] at h2
    have hm := maxI_le n (deepCase c) (2^40 - 1)
    have hn := le_maxI n (deepCase c)
    have hc : ∀ s, cw (.f F_tree_deepCases) [.sl [c.enc]] s = some (.ret (.val (.int .i64 (deepCase c))), s) := fun s => by
      rw [H (.mk nm a c) (List.mem_cons_self) (.sl [c.enc]) s (by simp only [go_sem, Nat.reduceAdd, Nat.reduceLeDiff, Nat.reduceSub, Nat.reduceMul, Nat.reduceEqDiff, Int.reduceEq, Int.reduceLT, Int.reduceLE, Int.reduceAdd, Int.reduceSub, Int.reduceNeg, Int.reduceGT, Int.reduceGE, Int.reduceNe, ne_eq, not_false_eq_true]; rfl)]
      obtain ⟨p, e⟩ := c
      simp only [Fun.case, deepCases, deepCase]
    rw [tree_deepDecs_l1_eq]; simp only [go_sem, Nat.reduceAdd, Nat.reduceLeDiff, Nat.reduceSub, Nat.reduceMul, Nat.reduceEqDiff, Int.reduceEq, Int.reduceLT, Int.reduceLE, Int.reduceAdd, Int.reduceSub, Int.reduceNeg, Int.reduceGT, Int.reduceGE, Int.reduceNe, ne_eq, not_false_eq_true, f1, f2, f3, hc]
    exact tree_deepDecs_l1_loop L x hx hl d x11 x12 n0 j hd suf (pre ++ [_]) _ s _ (by simpa using h) (by simp) (fun u hu => H u (List.mem_cons_of_mem _ hu)) (by omega) (by omega) (by omega) hj

theorem tree_deepDecs_loop (L : List Dec) (x : Slot) (hx : x.list? = some (L.map Dec.enc)) (hl : L.length < 2^40) : ∀ (suf pre : List Dec) (n : Int) (s : St) (i : Nat), pre ++ suf = L → i = pre.length → (∀ d ∈ suf, deepCasesOK d.case ∧ ∀ f ∈ d.funs, deepCasesOK [f.case]) → 0 ≤ n → n < 2^40 → Dec.sizes suf < 2^40 →
    tree_deepDecs_l0 (.val (.int .i64 n)) x (.val (.int .i64 L.length)) (.val (.int .i64 i)) s = some (.ret (.val (.int .i64 (deepDecs suf n))), s)
  | [], pre, n, s, i, h, hi, H, h0, h1, h2 => by
    subst hi
    rw [tree_deepDecs_l0_eq]; simp only [go_sem, Nat.reduceAdd, Nat.reduceLeDiff, Nat.reduceSub, Nat.reduceMul, Nat.reduceEqDiff, Int.reduceEq, Int.reduceLT, Int.reduceLE, Int.reduceAdd, Int.reduceSub, Int.reduceNeg, Int.reduceGT, Int.reduceGE, Int.reduceNe, ne_eq, not_false_eq_true, end_facts (by simpa using h)]; rfl
  | .mk k a nm p l nb c cb f fb :: suf, pre, n, s, i, h, hi, H, h0, h1, h2 => by
    subst hi
    obtain ⟨f1, f2, f3⟩ := step_facts hx h (by omega) (Dec.cells_len (.mk k a nm p l nb c cb f fb)) (by decide)
    obtain ⟨hC, hF⟩ := H (.mk k a nm p l nb c cb f fb) (List.mem_cons_self)
    simp only [Dec.case, Dec.funs] at hC hF
    simp only [Dec.sizes, Dec.size] at h2
    have g1 := deepCases_le c 0
    have g2 := deepFuns_le f (deepCases c 0)
    have g3 := deepCons_le l (deepFuns f (deepCases c 0))
    have g5 := le_maxI n (deepCons l (deepFuns f (deepCases c 0)) + 1)
    have g6 := maxI_le n (deepCons l (deepFuns f (deepCases c 0)) + 1) (2^40 - 1) (by omega) (by omega)
    have g7 := Fun.len_sizes f
    have hlen : pre.length < L.length := by rw [← h]; simp
    have hc1 := fun s => hC (encS cb (c.map Case.enc)) s (by simp only [go_sem, Nat.reduceAdd, Nat.reduceLeDiff, Nat.reduceSub, Nat.reduceMul, Nat.reduceEqDiff, Int.reduceEq, Int.reduceLT, Int.reduceLE, Int.reduceAdd, Int.reduceSub, Int.reduceNeg, Int.reduceGT, Int.reduceGE, Int.reduceNe, ne_eq, not_false_eq_true])
    rw [tree_deepDecs_l0_eq]; simp only [go_sem, Nat.reduceAdd, Nat.reduceLeDiff, Nat.reduceSub, Nat.reduceMul, Nat.reduceEqDiff, Int.reduceEq, Int.reduceLT, Int.reduceLE, Int.reduceAdd, Int.reduceSub, Int.reduceNeg, Int.reduceGT, Int.reduceGE, Int.reduceNe, ne_eq, not_false_eq_true, f1, f2, hc1]
    have := tree_deepDecs_l1_loop f (.val (encS fb (f.map Fun.enc))) (by simp only [go_sem, Nat.reduceAdd, Nat.reduceLeDiff, Nat.reduceSub, Nat.reduceMul, Nat.reduceEqDiff, Int.reduceEq, Int.reduceLT, Int.reduceLE, Int.reduceAdd, Int.reduceSub, Int.reduceNeg, Int.reduceGT, Int.reduceGE, Int.reduceNe, ne_eq, not_false_eq_true]) (by omega) (.mk k a nm p l nb c cb f fb) x (.val (.int .i64 L.length)) n pre.length (by simp only [Dec.cons]; omega) f [] (deepCases c 0) s 0 rfl rfl hF (by omega) (by omega) (by omega) (by omega)
    simp only [go_sem, Nat.reduceAdd, Nat.reduceLeDiff, Nat.reduceSub, Nat.reduceMul, Nat.reduceEqDiff, Int.reduceEq, Int.reduceLT, Int.reduceLE, Int.reduceAdd, Int.reduceSub, Int.reduceNeg, Int.reduceGT, Int.reduceGE, Int.reduceNe, ne_eq, not_false_eq_true, Dec.cons] at this
    rw [show ((0 : Nat) : Int) = 0 from rfl] at this
    rw [this]
    exact tree_deepDecs_loop L x hx hl suf (pre ++ [_]) _ s _ (by simpa using h) (by simp) (fun u hu => H u (List.mem_cons_of_mem _ hu)) (by omega) (by omega) (by omega)

theorem tree_deep_all : ∀ m : Nat, (∀ e : Exp, e.size ≤ m → e.size < 2^40 → deepExpOK e) ∧ (∀ l : List Case, Case.sizes l ≤ m → Case.sizes l < 2^40 → deepCasesOK l) ∧ (∀ l : List Dec, Dec.sizes l ≤ m → Dec.sizes l < 2^40 → deepDecsOK l) := by
  intro m
  induction m with
  | zero =>
    refine ⟨fun e h _ => ?_, fun l h _ v s hv => ?_, fun l h _ v s hv => ?_⟩
    · obtain ⟨k, a, nm, n, l, lb, c, cb, d, db⟩ := e
      simp only [Exp.size] at h; omega
    · cases l with
      | cons c l => obtain ⟨p, e⟩ := c; simp only [Case.sizes, Case.size] at h; omega
      | nil =>
        rw [tree_deepCases_eq]; simp only [go_sem, Nat.reduceAdd, Nat.reduceLeDiff, Nat.reduceSub, Nat.reduceMul, Nat.reduceEqDiff, Int.reduceEq, Int.reduceLT, Int.reduceLE, Int.reduceAdd, Int.reduceSub, Int.reduceNeg, Int.reduceGT, Int.reduceGE, Int.reduceNe, ne_eq, not_false_eq_true, hv]
        exact tree_deepCases_loop [] _ hv (by decide) [] [] 0 s 0 rfl rfl (by simp) (by decide) (by decide) (by simp only [Case.sizes]; decide)
    · cases l with
      | cons c l => obtain ⟨k, a, nm, p, l, nb, c, cb, f, fb⟩ := c; simp only [Dec.sizes, Dec.size] at h; omega
      | nil =>
        rw [tree_deepDecs_eq]; simp only [go_sem, Nat.reduceAdd, Nat.reduceLeDiff, Nat.reduceSub, Nat.reduceMul, Nat.reduceEqDiff, Int.reduceEq, Int.reduceLT, Int.reduceLE, Int.reduceAdd, Int.reduceSub, Int.reduceNeg, Int.reduceGT, Int.reduceGE, Int.reduceNe, ne_eq, not_false_eq_true, hv]
        exact tree_deepDecs_loop [] _ hv (by decide) [] [] 0 s 0 rfl rfl (by simp) (by decide) (by decide) (by simp only [Dec.sizes]; decide)
  | succ m ih =>
    obtain ⟨ihE, ihC, ihD⟩ := ih
    have hC : ∀ l : List Case, Case.sizes l ≤ m + 1 → Case.sizes l < 2^40 → deepCasesOK l := fun l h h' v s hv => by
      have := Case.len_sizes l
      rw [tree_deepCases_eq]; simp only [go_sem, Nat.reduceAdd, Nat.reduceLeDiff, Nat.reduceSub, Nat.reduceMul, Nat.reduceEqDiff, Int.reduceEq, Int.reduceLT, Int.reduceLE, Int.reduceAdd, Int.reduceSub, Int.reduceNeg, Int.reduceGT, Int.reduceGE, Int.reduceNe, ne_eq, not_false_eq_true, hv]
      exact tree_deepCases_loop l _ hv (by omega) l [] 0 s 0 rfl rfl (fun t ht => ihE t.exp (by have := Case.mem_sizes ht; obtain ⟨p, e⟩ := t; simp only [Case.size, Case.exp] at *; omega) (by have := Case.mem_sizes ht; obtain ⟨p, e⟩ := t; simp only [Case.size, Case.exp] at *; omega)) (by decide) (by decide) h'
    refine ⟨fun e h h' s => ?_, hC, fun l h h' v s hv => ?_⟩
    · obtain ⟨k, a, nm, n, l, lb, c, cb, d, db⟩ := e
      simp only [Exp.size] at h h'
      have hl := Exp.len_sizes l
      have g1 := deepDecs_le d 0
      have g2 := deepCases_le c 0
      have g3 := maxI_le (deepDecs d 0) (deepCases c 0) (2^40 - 1) (by omega) (by omega)
      have g4 := le_maxI (deepDecs d 0) (deepCases c 0)
      have hD := fun s => ihD d (by omega) (by omega) (encS db (d.map Dec.enc)) s (by simp only [go_sem, Nat.reduceAdd, Nat.reduceLeDiff, Nat.reduceSub, Nat.reduceMul, Nat.reduceEqDiff, Int.reduceEq, Int.reduceLT, Int.reduceLE, Int.reduceAdd, Int.reduceSub, Int.reduceNeg, Int.reduceGT, Int.reduceGE, Int.reduceNe, ne_eq, not_false_eq_true])
      have hCc := fun s => ihC c (by omega) (by omega) (encS cb (c.map Case.enc)) s (by simp only [go_sem, Nat.reduceAdd, Nat.reduceLeDiff, Nat.reduceSub, Nat.reduceMul, Nat.reduceEqDiff, Int.reduceEq, Int.reduceLT, Int.reduceLE, Int.reduceAdd, Int.reduceSub, Int.reduceNeg, Int.reduceGT, Int.reduceGE, Int.reduceNe, ne_eq, not_false_eq_true])
      rw [tree_deepExp_eq]; simp only [go_sem, Nat.reduceAdd, Nat.reduceLeDiff, Nat.reduceSub, Nat.reduceMul, Nat.reduceEqDiff, Int.reduceEq, Int.reduceLT, Int.reduceLE, Int.reduceAdd, Int.reduceSub, Int.reduceNeg, Int.reduceGT, Int.reduceGE, Int.reduceNe, ne_eq, not_false_eq_true, Exp.enc, hD, hCc]
      exact tree_deepExp_loop l _ (by simp only [go_sem, Nat.reduceAdd, Nat.reduceLeDiff, Nat.reduceSub, Nat.reduceMul, Nat.reduceEqDiff, Int.reduceEq, Int.reduceLT, Int.reduceLE, Int.reduceAdd, Int.reduceSub, Int.reduceNeg, Int.reduceGT, Int.reduceGE, Int.reduceNe, ne_eq, not_false_eq_true]) (by omega) l [] _ s 0 rfl rfl (fun t ht => ihE t (by have := Exp.mem_sizes ht; omega) (by have := Exp.mem_sizes ht; omega)) (by omega) (by omega) (by omega)
    · have := Dec.len_sizes l
      rw [tree_deepDecs_eq]; simp only [go_sem, Nat.reduceAdd, Nat.reduceLeDiff, Nat.reduceSub, Nat.reduceMul, Nat.reduceEqDiff, Int.reduceEq, Int.reduceLT, Int.reduceLE, Int.reduceAdd, Int.reduceSub, Int.reduceNeg, Int.reduceGT, Int.reduceGE, Int.reduceNe, ne_eq, not_false_eq_true, hv]
      refine tree_deepDecs_loop l _ hv (by omega) l [] 0 s 0 rfl rfl (fun t ht => ?_) (by decide) (by decide) h'
      have h1 := Dec.mem_sizes ht
      obtain ⟨k, a, nm, p, l, nb, c, cb, f, fb⟩ := t
      simp only [Dec.size] at h1
      refine ⟨ihC c (by omega) (by omega), fun g hg => ?_⟩
      have h2 := Fun.mem_sizes hg
      obtain ⟨nm, a, c'⟩ := g
      simp only [Dec.funs, Fun.size] at h2
      exact ihC [c'] (by simp only [Case.sizes]; omega) (by simp only [Case.sizes]; omega)

theorem tree_deepExp_spec (e : Exp) (s : St) (h : e.size < 2^40) : cw (.f F_tree_deepExp) [e.enc] s = some (.ret (.val (.int .i64 (deepExp e))), s) := (tree_deep_all e.size).1 e (Nat.le_refl _) h s
theorem tree_deepDecs_spec (l : List Dec) (nl : Bool) (s : St) (h : Dec.sizes l < 2^40) : cw (.f F_tree_deepDecs) [encS nl (l.map Dec.enc)] s = some (.ret (.val (.int .i64 (deepDecs l 0))), s) := (tree_deep_all (Dec.sizes l)).2.2 l (Nat.le_refl _) h _ s (by simp only [go_sem, Nat.reduceAdd, Nat.reduceLeDiff, Nat.reduceSub, Nat.reduceMul, Nat.reduceEqDiff, Int.reduceEq, Int.reduceLT, Int.reduceLE, Int.reduceAdd, Int.reduceSub, Int.reduceNeg, Int.reduceGT, Int.reduceGE, Int.reduceNe, ne_eq, not_false_eq_true])

end Go.Proofs.Ytemfpnlpnmglfaa
