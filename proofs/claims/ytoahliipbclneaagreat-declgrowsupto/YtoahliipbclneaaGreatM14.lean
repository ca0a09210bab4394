/- A part of the proof: SRef4, SRef6, SKnows, SRef13, PRN, PDeclOK, PBare, PTab, SLaw11, PBare3, PBare2, PBare4. -/
import Derived.Test.YtoahliipbclneaaGreatM6
import Derived.Test.YtoahliipbclneaaGreatM7
import Derived.Test.YtoahliipbclneaaGreatM8
import Derived.Test.YtoahliipbclneaaGreatM9
import Derived.Test.YtoahliipbclneaaGreatM10
import Derived.Test.YtoahliipbclneaaGreatM12
import Derived.Test.YtoahliipbclneaaGreatM13
set_option linter.unusedVariables false
set_option linter.unusedSimpArgs false
namespace Go.Proofs.YtoahliipbclneaaGreat
open Go Go.Am
set_option linter.unusedVariables false
set_option maxRecDepth 4000
theorem Q41 (t : Ty) (hl : t.args.length < 2^40) : ∀ (suf pre : List Ty) (n : Int) (s : St) (i : Nat), pre ++ suf = t.args → i = pre.length → (∀ t ∈ suf, ∀ s, cw (.f ZL) [t.enc] s = some (.ret (.val (.int .i64 (deepTy t))), s)) → 0 ≤ n → n < 2^40 → Ty.sizes suf < 2^40 →
  Q0h (t.cells.map .val) (.val (.int .i64 n)) (.val (.int .i64 i)) s = some (.ret (.val (.int .i64 (deepTys suf n + 1))), s)
 | [], pre, n, s, i, h, hi, H, h0, h1, h2 => by
   subst hi
   rw [Q3B]; simp only [go_sem, Nat.reduceAdd, Nat.reduceLeDiff, Ty.cells_eq, Q9 (by simpa using h)]
   rw [wrap64 (by omega) (by omega)]; rfl
 | u :: suf, pre, n, s, i, h, hi, H, h0, h1, h2 => by
   subst hi
   obtain ⟨f1, f2, f3⟩ := Q8 (x := .val (encS t.nl (t.args.map Ty.enc))) (Qf _ _) h (by omega) (Ty.cells_len u) (by decide)
   have ht := Q2k u
   have hm := QG n (deepTy u) (2^40 - 1)
   have hn := QF n (deepTy u)
   simp only [Ty.sizes] at h2
   have := Q41 t hl suf (pre ++ [u]) (maxI n (deepTy u)) s (pre.length + 1) (by simpa using h) (by simp) (fun w hw => H w (List.mem_cons_of_mem _ hw)) (by omega) (by omega) (by omega)
   rw [Q3B]; rw [Ty.cells_eq] at this ⊢; simp only [go_sem, Nat.reduceAdd, Nat.reduceLeDiff, f1, f2, f3, H u (List.mem_cons_self)] at this ⊢
   exact this
theorem Q42 : ∀ (m : Nat) (t : Ty) (s : St), t.size ≤ m → t.size < 2^40 → cw (.f ZL) [t.enc] s = some (.ret (.val (.int .i64 (deepTy t))), s)
 | 0, .mk _ _ _ _ _, _, h, _ => by simp only [Ty.size] at h; omega
 | m + 1, .mk k n nm l nl, s, h, h' => by
   simp only [Ty.size] at h h'
   have hl := Ty.len_sizes l
   have := Q41 (.mk k n nm l nl) (by simp only [Ty.args]; omega) l [] 0 s 0 rfl rfl (fun u hu s => by have := Ty.mem_sizes hu; exact Q42 m u s (by omega) (by omega)) (by decide) (by decide) (by omega)
   rw [Qaw]; simp only [go_sem, Nat.reduceAdd, Ty.enc] at this ⊢
   exact this
theorem Q3A (t : Pat) (hl : t.kids.length < 2^40) : ∀ (suf pre : List Pat) (n : Int) (s : St) (i : Nat), pre ++ suf = t.kids → i = pre.length → (∀ t ∈ suf, ∀ s, cw (.f QV) [t.enc] s = some (.ret (.val (.int .i64 (deepPat t))), s)) → 0 ≤ n → n < 2^40 → Pat.sizes suf < 2^40 →
  ZX (t.cells.map .val) (.val (.int .i64 n)) (.val (.int .i64 i)) s = some (.ret (.val (.int .i64 (deepPats suf n + 1))), s)
 | [], pre, n, s, i, h, hi, H, h0, h1, h2 => by
   subst hi
   rw [Q32]; simp only [go_sem, Nat.reduceAdd, Nat.reduceLeDiff, Pat.cells_eq, Q9 (by simpa using h)]
   rw [wrap64 (by omega) (by omega)]; rfl
 | u :: suf, pre, n, s, i, h, hi, H, h0, h1, h2 => by
   subst hi
   obtain ⟨f1, f2, f3⟩ := Q8 (x := .val (encS t.kb (t.kids.map Pat.enc))) (Qf _ _) h (by omega) (Pat.cells_len u) (by decide)
   have ht := ZG u
   have hm := QG n (deepPat u) (2^40 - 1)
   have hn := QF n (deepPat u)
   simp only [Pat.sizes] at h2
   have := Q3A t hl suf (pre ++ [u]) (maxI n (deepPat u)) s (pre.length + 1) (by simpa using h) (by simp) (fun w hw => H w (List.mem_cons_of_mem _ hw)) (by omega) (by omega) (by omega)
   rw [Q32]; rw [Pat.cells_eq] at this ⊢; simp only [go_sem, Nat.reduceAdd, Nat.reduceLeDiff, f1, f2, f3, H u (List.mem_cons_self)] at this ⊢
   exact this
theorem Q0g : ∀ (m : Nat) (t : Pat) (s : St), t.size ≤ m → t.size < 2^40 → cw (.f QV) [t.enc] s = some (.ret (.val (.int .i64 (deepPat t))), s)
 | 0, .mk _ _ _ _ _ _, _, h, _ => by simp only [Pat.size] at h; omega
 | m + 1, .mk k a nm n l nl, s, h, h' => by
   simp only [Pat.size] at h h'
   have hl := Pat.len_sizes l
   have := Q3A (.mk k a nm n l nl) (by simp only [Pat.kids]; omega) l [] 0 s 0 rfl rfl (fun u hu s => by have := Pat.mem_sizes hu; exact Q0g m u s (by omega) (by omega)) (by decide) (by decide) (by omega)
   rw [Q9k]; simp only [go_sem, Nat.reduceAdd, Pat.enc] at this ⊢
   exact this
def rdeepExpOK (t : Exp) : Prop := ∀ s, cw (.f QU) [t.enc] s = some (.ret (.val (.int .i64 (deepExp t))), s)
def rdeepDecsOK (l : List Dec) : Prop := ∀ (v : AV) (s : St), (Slot.val v).list? = some (l.map Dec.enc) → cw (.f Z8) [v] s = some (.ret (.val (.int .i64 (deepDecs l 0))), s)
theorem Q2o (t : Exp) (hl : t.cases.length < 2^40) : ∀ (suf pre : List Case) (n : Int) (s : St) (i : Nat), pre ++ suf = t.cases → i = pre.length → (∀ c ∈ suf, rdeepExpOK c.exp) → 0 ≤ n → n < 2^40 → Case.sizes suf < 2^40 →
  ZW (t.cells.map .val) (.val (.int .i64 n)) (.val (.int .i64 i)) s = some (.ret (.val (.int .i64 (deepCases suf n + 1))), s)
 | [], pre, n, s, i, h, hi, H, h0, h1, h2 => by
   subst hi
   rw [Q2W]; simp only [go_sem, Exp.cells_eq, Q9 (by simpa using h)]
   rw [wrap64 (by omega) (by omega)]; rfl
 | .mk p e :: suf, pre, n, s, i, h, hi, H, h0, h1, h2 => by
   subst hi
   obtain ⟨f1, f2, f3⟩ := Q8 (x := .val (encS t.cb (t.cases.map Case.enc))) (Qf _ _) h (by omega) (Case.cells_len (.mk p e)) (by decide)
   have ht := ZF e
   have hp := ZG p
   simp only [Case.sizes, Case.size] at h2
   have h4 := QF n (deepPat p)
   have h5 := QF (maxI n (deepPat p)) (deepExp e)
   have h6 := QG n (deepPat p) (2^40 - 1) (by omega) (by omega)
   have h7 := QG (maxI n (deepPat p)) (deepExp e) (2^40 - 1) (by omega) (by omega)
   have He : rdeepExpOK e := H (.mk p e) (List.mem_cons_self)
   have := Q2o t hl suf (pre ++ [.mk p e]) (maxI (maxI n (deepPat p)) (deepExp e)) s (pre.length + 1) (by simpa using h) (by simp) (fun w hw => H w (List.mem_cons_of_mem _ hw)) (by omega) (by omega) (by omega)
   rw [Q2W]; rw [Exp.cells_eq] at this ⊢; simp only [go_sem, Nat.reduceLeDiff, Nat.reduceSub, f1, f2, f3, Q0g _ p _ (Nat.le_refl _) (show p.size < 2^40 by omega), He s] at this ⊢
   exact this
theorem Q2n (t : Exp) (hl : t.kids.length < 2^40) (hl2 : t.cases.length < 2^40) (hc : Case.sizes t.cases < 2^40) (Hc : ∀ c ∈ t.cases, rdeepExpOK c.exp) : ∀ (suf pre : List Exp) (n : Int) (s : St) (i : Nat), pre ++ suf = t.kids → i = pre.length → (∀ c ∈ suf, rdeepExpOK c) → 0 ≤ n → n < 2^40 → Exp.sizes suf < 2^40 →
  ZV (t.cells.map .val) (.val (.int .i64 n)) (.val (.int .i64 i)) s = some (.ret (.val (.int .i64 (deepCases t.cases (deepExps suf n) + 1))), s)
 | [], pre, n, s, i, h, hi, H, h0, h1, h2 => by
   subst hi
   have := Q2o t hl2 t.cases [] n s 0 rfl rfl Hc h0 h1 hc
   rw [Q2V]; rw [Exp.cells_eq] at this ⊢; simp only [go_sem, Q9 (by simpa using h)] at this ⊢
   exact this
 | e :: suf, pre, n, s, i, h, hi, H, h0, h1, h2 => by
   subst hi
   obtain ⟨f1, f2, f3⟩ := Q8 (x := .val (encS t.kb (t.kids.map Exp.enc))) (Qf _ _) h (by omega) (Exp.cells_len e) (by decide)
   have ht := ZF e
   simp only [Exp.sizes] at h2
   have h4 := QF n (deepExp e)
   have h6 := QG n (deepExp e) (2^40 - 1) (by omega) (by omega)
   have He : rdeepExpOK e := H e (List.mem_cons_self)
   have := Q2n t hl hl2 hc Hc suf (pre ++ [e]) (maxI n (deepExp e)) s (pre.length + 1) (by simpa using h) (by simp) (fun w hw => H w (List.mem_cons_of_mem _ hw)) (by omega) (by omega) (by omega)
   rw [Q2V]; rw [Exp.cells_eq] at this ⊢; simp only [go_sem, Nat.reduceLeDiff, f1, f2, f3, He s] at this ⊢
   exact this
theorem Q1B (d : Dec) (x0 : Slot) (j : Nat) (fx : ixS 7 x0 (.val (.int .i64 (j : Int))) = some (.val (.cp d.cells))) (n0 : Int) (hj : j < 2^40) (hl : d.cons.length < 2^40) : ∀ (suf pre : List Con) (n : Int) (s : St) (i : Nat), pre ++ suf = d.cons → i = pre.length → 0 ≤ n → n < 2^40 → Con.sizes suf < 2^40 →
  Q06 x0 (.val (.int .i64 n0)) (.val (.int .i64 j)) (.val (.int .i64 n)) (.val (.int .i64 i)) s = Ze x0 (.val (.int .i64 (maxI n0 (deepCons suf n + 1)))) (.val (.int .i64 (j + 1 : Nat))) s
 | [], pre, n, s, i, h, hi, h0, h1, h2 => by
   subst hi
   rw [Q4N]; simp only [go_sem, fx, Dec.cells_eq, Q9 (by simpa using h)]
   rw [wrap64 (n := n + 1) (by omega) (by omega), wrap64 (by omega) (by omega)]; rfl
 | c :: suf, pre, n, s, i, h, hi, h0, h1, h2 => by
   subst hi
   obtain ⟨f1, f2, f3⟩ := Q8 (x := .val (encS d.nb (d.cons.map Con.enc))) (Qf _ _) h (by omega) (Con.cells_len c) (by decide)
   have ht := Q2k c.arg
   simp only [Con.sizes, Con.size] at h2
   have hm := QG n (deepTy c.arg) (2^40 - 1)
   have hn := QF n (deepTy c.arg)
   obtain ⟨nm, a, hs, arg⟩ := c
   dsimp only at ht hm hn h2
   rw [Q4N]; simp only [go_sem, Nat.reduceLeDiff, fx, Dec.cells_eq, f1, f2, f3, Con.cells]
   cases hs with
   | false =>
     simp only [go_sem]
     exact Q1B d x0 j fx n0 hj hl suf (pre ++ [_]) n s _ (by simpa using h) (by simp) (by omega) (by omega) (by omega)
   | true =>
     simp only [go_sem, Q42 _ arg _ (Nat.le_refl _) (show arg.size < 2^40 by omega)]
     exact Q1B d x0 j fx n0 hj hl suf (pre ++ [_]) _ s _ (by simpa using h) (by simp) (by omega) (by omega) (by omega)
theorem Q3y (d : Dec) (x0 : Slot) (j : Nat) (fx : ixS 7 x0 (.val (.int .i64 (j : Int))) = some (.val (.cp d.cells))) (n0 : Int) (hj : j < 2^40) (hl : d.funs.length < 2^40) (hl3 : d.cons.length < 2^40) (hc : Con.sizes d.cons < 2^40) : ∀ (suf pre : List Fun) (n : Int) (s : St) (i : Nat), pre ++ suf = d.funs → i = pre.length → (∀ f ∈ suf, rdeepExpOK f.case.exp) → 0 ≤ n → n < 2^40 → Fun.sizes suf < 2^40 →
  Q1c x0 (.val (.int .i64 n0)) (.val (.int .i64 j)) (.val (.int .i64 n)) (.val (.int .i64 i)) s = Ze x0 (.val (.int .i64 (maxI n0 (deepCons d.cons (deepFuns suf n) + 1)))) (.val (.int .i64 (j + 1 : Nat))) s
 | [], pre, n, s, i, h, hi, H, h0, h1, h2 => by
   subst hi
   have := Q1B d x0 j fx n0 hj hl3 d.cons [] n s 0 rfl rfl h0 h1 hc
   rw [Q4M]; simp only [go_sem, Nat.reduceAdd, Nat.reduceLeDiff, fx, Dec.cells_eq, Q9 (by simpa using h)]
   exact this
 | .mk nm a (.mk p e) :: suf, pre, n, s, i, h, hi, H, h0, h1, h2 => by
   subst hi
   obtain ⟨f1, f2, f3⟩ := Q8 (x := .val (encS d.fb (d.funs.map Fun.enc))) (Qf _ _) h (by omega) (Fun.cells_len (.mk nm a (.mk p e))) (by decide)
   have ht := ZF e
   have hp := ZG p
   simp only [Fun.sizes, Fun.size, Case.size] at h2
   have h4 := QF n (deepPat p)
   have h5 := QF (maxI n (deepPat p)) (deepExp e)
   have h6 := QG n (deepPat p) (2^40 - 1) (by omega) (by omega)
   have h7 := QG (maxI n (deepPat p)) (deepExp e) (2^40 - 1) (by omega) (by omega)
   have ha := Qdt (.mk p e) n h0
   simp only [Case.pat, Case.exp] at ha
   have He : rdeepExpOK e := H (.mk nm a (.mk p e)) (List.mem_cons_self)
   have := Q3y d x0 j fx n0 hj hl hl3 hc suf (pre ++ [_]) (maxI (maxI n (deepPat p)) (deepExp e)) s (pre.length + 1) (by simpa using h) (by simp) (fun w hw => H w (List.mem_cons_of_mem _ hw)) (by omega) (by omega) (by omega)
   rw [Q4M]; simp only [go_sem, Nat.reduceAdd, Nat.reduceLeDiff, Nat.reduceSub, fx, Dec.cells_eq, f1, f2, f3, Q0g _ p _ (Nat.le_refl _) (show p.size < 2^40 by omega), He s]
   simp only [deepFuns]
   rw [← ha]
   exact this
theorem Q3x (d : Dec) (x0 : Slot) (j : Nat) (fx : ixS 7 x0 (.val (.int .i64 (j : Int))) = some (.val (.cp d.cells))) (n0 : Int) (hj : j < 2^40) (hl : d.case.length < 2^40) (hl2 : d.funs.length < 2^40) (hl3 : d.cons.length < 2^40) (hc : Con.sizes d.cons < 2^40) (hf : Fun.sizes d.funs < 2^40) (HF : ∀ f ∈ d.funs, rdeepExpOK f.case.exp) : ∀ (suf pre : List Case) (n : Int) (s : St) (i : Nat), pre ++ suf = d.case → i = pre.length → (∀ f ∈ suf, rdeepExpOK f.exp) → 0 ≤ n → n < 2^40 → Case.sizes suf < 2^40 →
  Q1b x0 (.val (.int .i64 n0)) (.val (.int .i64 j)) (.val (.int .i64 n)) (.val (.int .i64 i)) s = Ze x0 (.val (.int .i64 (maxI n0 (deepCons d.cons (deepFuns d.funs (deepCases suf n)) + 1)))) (.val (.int .i64 (j + 1 : Nat))) s
 | [], pre, n, s, i, h, hi, H, h0, h1, h2 => by
   subst hi
   have := Q3y d x0 j fx n0 hj hl2 hl3 hc d.funs [] n s 0 rfl rfl HF h0 h1 hf
   rw [Q4L]; simp only [go_sem, fx, Dec.cells_eq, Q9 (by simpa using h)]
   exact this
 | .mk p e :: suf, pre, n, s, i, h, hi, H, h0, h1, h2 => by
   subst hi
   obtain ⟨f1, f2, f3⟩ := Q8 (x := .val (encS d.cb (d.case.map Case.enc))) (Qf _ _) h (by omega) (Case.cells_len (.mk p e)) (by decide)
   have ht := ZF e
   have hp := ZG p
   simp only [Case.sizes, Case.size] at h2
   have h4 := QF n (deepPat p)
   have h5 := QF (maxI n (deepPat p)) (deepExp e)
   have h6 := QG n (deepPat p) (2^40 - 1) (by omega) (by omega)
   have h7 := QG (maxI n (deepPat p)) (deepExp e) (2^40 - 1) (by omega) (by omega)
   have He : rdeepExpOK e := H (.mk p e) (List.mem_cons_self)
   have := Q3x d x0 j fx n0 hj hl hl2 hl3 hc hf HF suf (pre ++ [_]) (maxI (maxI n (deepPat p)) (deepExp e)) s (pre.length + 1) (by simpa using h) (by simp) (fun w hw => H w (List.mem_cons_of_mem _ hw)) (by omega) (by omega) (by omega)
   rw [Q4L]; simp only [go_sem, Nat.reduceLeDiff, Nat.reduceSub, fx, Dec.cells_eq, f1, f2, f3, Q0g _ p _ (Nat.le_refl _) (show p.size < 2^40 by omega), He s]
   exact this
theorem Q2P (L : List Dec) (x : Slot) (hx : x.list? = some (L.map Dec.enc)) (hl : L.length < 2^40) : ∀ (suf pre : List Dec) (n : Int) (s : St) (i : Nat), pre ++ suf = L → i = pre.length → (∀ d ∈ suf, (∀ c ∈ d.case, rdeepExpOK c.exp) ∧ ∀ f ∈ d.funs, rdeepExpOK f.case.exp) → 0 ≤ n → n < 2^40 → Dec.sizes suf < 2^40 →
  Ze x (.val (.int .i64 n)) (.val (.int .i64 i)) s = some (.ret (.val (.int .i64 (deepDecs suf n))), s)
 | [], pre, n, s, i, h, hi, H, h0, h1, h2 => by
   subst hi
   rw [Q4K]; simp only [go_sem, hx, Q9 (by simpa using h)]; rfl
 | .mk k a nm p l nb c cb f fb :: suf, pre, n, s, i, h, hi, H, h0, h1, h2 => by
   subst hi
   obtain ⟨f1, f2, f3⟩ := Q8 hx h (by omega) (Dec.cells_len (.mk k a nm p l nb c cb f fb)) (by decide)
   obtain ⟨hC, hF⟩ := H (.mk k a nm p l nb c cb f fb) (List.mem_cons_self)
   simp only [Dec.sizes, Dec.size] at h2
   have g1 := ZT c 0
   have g2 := Q1n f (deepCases c 0)
   have g3 := Q1X l (deepFuns f (deepCases c 0))
   have g5 := QF n (deepCons l (deepFuns f (deepCases c 0)) + 1)
   have g6 := QG n (deepCons l (deepFuns f (deepCases c 0)) + 1) (2^40 - 1) (by omega) (by omega)
   have g7 := Fun.len_sizes f
   have g8 := Case.len_sizes c
   have g9 := Con.len_sizes l
   have hlen : pre.length < L.length := by rw [← h]; simp
   have := Q3x (.mk k a nm p l nb c cb f fb) x pre.length f2 n (by omega) (by simp only [Dec.case]; omega) (by simp only [Dec.funs]; omega) (by simp only [Dec.cons]; omega) (by simp only [Dec.cons]; omega) (by simp only [Dec.funs]; omega) hF c [] 0 s 0 rfl rfl hC (by decide) (by decide) (by omega)
   rw [show ((0 : Nat) : Int) = 0 from rfl] at this
   rw [Q4K]; simp only [go_sem, hx, f1, f2, this]
   exact Q2P L x hx hl suf (pre ++ [_]) _ s _ (by simpa using h) (by simp) (fun u hu => H u (List.mem_cons_of_mem _ hu)) (by simp only [Dec.cons, Dec.funs]; omega) (by simp only [Dec.cons, Dec.funs]; omega) (by omega)
theorem Qbt : ∀ m : Nat, (∀ e : Exp, e.size ≤ m → e.size < 2^40 → rdeepExpOK e) ∧ (∀ l : List Dec, Dec.sizes l ≤ m → Dec.sizes l < 2^40 → rdeepDecsOK l) := by
 intro m
 induction m with
 | zero =>
   refine ⟨fun e h _ => ?_, fun l h _ v s hv => ?_⟩
   ·obtain ⟨k, a, nm, n, l, lb, c, cb, d, db⟩ := e
    simp only [Exp.size] at h; omega
   ·cases l with
    | cons c l => obtain ⟨k, a, nm, p, l, nb, c, cb, f, fb⟩ := c; simp only [Dec.sizes, Dec.size] at h; omega
    | nil =>
      rw [Q6P]
      exact Q2P [] _ hv (by decide) [] [] 0 s 0 rfl rfl (by simp) (by decide) (by decide) (by simp only [Dec.sizes]; decide)
 | succ m ih =>
   obtain ⟨ihE, ihD⟩ := ih
   have hcase : ∀ (c : List Case), Case.sizes c ≤ m + 1 → Case.sizes c < 2^40 → ∀ t ∈ c, rdeepExpOK t.exp := fun c h h' t ht => by
    have := Case.mem_sizes ht
    obtain ⟨p, e⟩ := t
    simp only [Case.size] at this
    exact ihE e (by omega) (by omega)
   refine ⟨fun e h h' s => ?_, fun l h h' v s hv => ?_⟩
   ·obtain ⟨k, a, nm, n, l, lb, c, cb, d, db⟩ := e
    simp only [Exp.size] at h h'
    have hl := Exp.len_sizes l
    have hl2 := Case.len_sizes c
    have g1 := Q1m d 0
    have hD := fun s => ihD d (by omega) (by omega) (encS db (d.map Dec.enc)) s (by simp only [go_sem])
    have := Q2n (.mk k a nm n l lb c cb d db) (by simp only [Exp.kids]; omega) (by simp only [Exp.cases]; omega) (by simp only [Exp.cases]; omega) (hcase c (by omega) (by omega)) l [] (deepDecs d 0) s 0 rfl rfl (fun t ht => ihE t (by have := Exp.mem_sizes ht; omega) (by have := Exp.mem_sizes ht; omega)) (by omega) (by omega) (by omega)
    rw [Q9e]; simp only [go_sem, Nat.reduceAdd, Nat.reduceLeDiff, Exp.enc, hD] at this ⊢
    rw [show ((0 : Nat) : Int) = 0 from rfl] at this
    rw [this]
    simp only [Exp.cases, deepExp]
    rw [QeH]
   ·have := Dec.len_sizes l
    rw [Q6P]
    refine Q2P l _ hv (by omega) l [] 0 s 0 rfl rfl (fun t ht => ?_) (by decide) (by decide) h'
    have h1 := Dec.mem_sizes ht
    obtain ⟨k, a, nm, p, l, nb, c, cb, f, fb⟩ := t
    simp only [Dec.size] at h1
    refine ⟨hcase c (by omega) (by omega), fun g hg => ?_⟩
    have h2 := Fun.mem_sizes hg
    obtain ⟨nm, a, ⟨p, e⟩⟩ := g
    simp only [Dec.funs, Fun.size, Case.size] at h2
    exact ihE e (by omega) (by omega)
theorem Qas (l : List Dec) (nl : Bool) (s : St) (h : Dec.sizes l < 2^40) : cw (.f Z8) [encS nl (l.map Dec.enc)] s = some (.ret (.val (.int .i64 (deepDecs l 0))), s) := (Qbt (Dec.sizes l)).2 l (Nat.le_refl _) h _ s (by simp only [go_sem])
end Go.Proofs.YtoahliipbclneaaGreat
namespace Go.Proofs.YtoahliipbclneaaGreat
open Go Go.Am
set_option linter.unusedVariables false
set_option maxRecDepth 4000
theorem Q2h (L : List TNode) (z : Slot) (hz : z.list? = some (L.map TNode.enc)) (hl : L.length < 2^40) : ∀ (suf pre : List TNode) (n : Nat) (s : St) (i : Nat), pre ++ suf = L → i = pre.length → n + suf.length < 2^40 →
  ZR z (.val (.int .i64 n)) (.val (.int .i64 i)) s = some (.ret (.val (.int .i64 (n + countN suf : Nat))), s)
 | [], pre, n, s, i, h, hi, hb => by
   subst hi
   rw [Q40]; simp only [go_sem, hz, Q9 (by simpa using h)]; rfl
 | u :: suf, pre, n, s, i, h, hi, hb => by
   subst hi
   obtain ⟨f1, f2, f3⟩ := Q8 hz h (by omega) (TNode.cells_len u) (by decide)
   have hw : IntKind.i64.wrap ((n : Int) + 1) = ((n + 1 : Nat) : Int) := by rw [wrap64 (by omega) (by omega)]; rfl
   simp only [List.length_cons] at hb
   rw [TNode.enc, Q0c, TNode.cells_3] at f2
   have h1 := Q2h L z hz hl suf (pre ++ [u]) n s (pre.length + 1) (by simpa using h) (by simp) (by omega)
   have h2 := Q2h L z hz hl suf (pre ++ [u]) (n + 1) s (pre.length + 1) (by simpa using h) (by simp) (by omega)
   rw [Q40]; simp only [go_sem, hz, f1, f2, f3, TNode.what_isNode, hw, h1, h2]
   cases hu : u.isNode
   ·have e : countN (u :: suf) = countN suf := by simp [countN, hu]
    simp only [go_sem, e]
   ·have e : countN (u :: suf) = countN suf + 1 := by simp [countN, hu]
    simp only [go_sem, e]
    rw [show n + 1 + countN suf = n + (countN suf + 1) by omega]
theorem Q9j (l : List TNode) (v : AV) (hv : (Slot.val v).list? = some (l.map TNode.enc)) (s : St) (h : l.length < 2^39) : cw (.f Q2a) [v] s = some (.ret (.val (.int .i64 (countN l))), s) := by
 rw [Qbr]
 have := Q2h l (.val v) hv (by omega) l [] 0 s 0 rfl rfl (by omega)
 rw [Nat.zero_add] at this
 exact this
theorem Q4R (L : List TNode) (z : Slot) (hz : z.list? = some (L.map TNode.enc)) (hl : L.length < 2^40) : ∀ (suf pre : List TNode) (s : St) (i : Nat), pre ++ suf = L → i = pre.length → (∀ n ∈ suf, n.ok) →
  Q0R z [.val (.int .i64 0), .val (.int .i64 0), .val (.str [])] (.val (.int .i64 i)) s = some (.ret (.val (firstBad suf).enc), s)
 | [], pre, s, i, h, hi, H => by
   subst hi
   rw [Q43]; simp only [go_sem, Nat.reduceAdd, Nat.reduceLeDiff, hz, Q9 (by simpa using h)]; rfl
 | u :: suf, pre, s, i, h, hi, H => by
   subst hi
   obtain ⟨f1, f2, f3⟩ := Q8 hz h (by omega) (TNode.cells_len u) (by decide)
   obtain ⟨nm, e1, e2⟩ := Q9o u s (H u (List.mem_cons_self))
   have ih := Q4R L z hz hl suf (pre ++ [u]) s (pre.length + 1) (by simpa using h) (by simp) (fun w hw => H w (List.mem_cons_of_mem _ hw))
   have f2' := f2
   rw [TNode.enc, Q0c, TNode.cells_3] at f2'
   have hj : ∀ (e : Int) (nm : Str), Q0Q z [.val (.int .i64 0), .val (.int .i64 0), .val (.str [])] (.val (.int .i64 pre.length)) (.val (.int .i64 e)) (.val (.str nm)) s = some (.ret (.val (TBad.mk e u.at_ nm).enc), s) := fun e nm => by
    rw [Q85]; simp only [go_sem, Nat.reduceAdd, Nat.reduceLeDiff, f2']; rfl
   rw [Q43]; simp only [go_sem, Nat.reduceAdd, Nat.reduceLeDiff, hz, f1, f2, f3, e1, ih, hj]
   by_cases h0 : u.wrong.1 = 0
   ·simp only [go_sem, Int.reduceEq, h0, firstBad, TNode.bad, mkBad, TBad.zero]
   ·have hk : decide (u.bad.kind = 0) = false := by simp [TNode.bad, mkBad, h0]
    by_cases h8 : u.wrong.1 = 8
    ·have := e2 h8
     subst this
     simp only [go_sem, Int.reduceEq, h8, firstBad, hk]
     simp only [TNode.bad, h8]; rfl
    ·simp only [go_sem, decide_eq_false h0, decide_eq_false h8, firstBad, hk]
     simp only [TNode.bad, mkBad, decide_eq_false h0, decide_eq_false h8]; rfl
theorem Q9l (l : List TNode) (v : AV) (hv : (Slot.val v).list? = some (l.map TNode.enc)) (deep : Int) (s : St) (h : l.length < 2^39) (H : ∀ n ∈ l, n.ok) : cw (.f Q17) [v, .int .i64 deep] s = some (.ret (.val (rightN l deep).enc), s) := by
 have h1 := Q9j l v hv s h
 have h2 := Q4R l (.val v) hv (by omega) l [] s 0 rfl rfl H
 rw [show ((0 : Nat) : Int) = 0 from rfl] at h2
 rw [Qbv]; simp only [go_sem, Nat.reduceAdd, Nat.reduceLeDiff, h1, h2]
 have e : decide ((countN l : Int) > 8192) = decide (countN l > 8192) := by simp only [gt_iff_lt]; congr 1; rw [eq_iff_iff]; omega
 rw [e]
 unfold rightN
 cases decide (countN l > 8192) <;> cases decide (deep > 100) <;> rfl
theorem Q9f (l : List Dec) (nl : Bool) (s : St) (h : Dec.sizes l < 2^26) (H : ∀ n ∈ nodesDecs false l, n.ok) : Ret (cw (.f Q3H) [encS nl (l.map Dec.enc)] s) s (rightN (nodesDecs false l) (deepDecs l 0)).enc := by
 obtain ⟨x, s1, e1, g1⟩ := QcT l nl s h
 have hlen := Q2c false l
 obtain ⟨b, hb⟩ := g1.av
 have h2 := Qas l nl s1 (by omega)
 have h3 := Q9l (nodesDecs false l) (encS b ((nodesDecs false l).map TNode.enc)) (by simp only [go_sem]) (deepDecs l 0) s1 (by omega) H
 rw [Qbo]; simp only [go_sem, e1, h2, ZS hb, h3]
 exact Ret.mk g1.grew
end Go.Proofs.YtoahliipbclneaaGreat
namespace Go.Am
open Go
@[go_sem] theorem Qnd {l : List AV} {off sz : Nat} {m : List AV} (h : sz = 1) (k : off + 1 ≤ l.length) (r : List (Nat × Nat × Slot)) : fillS l ((off, sz, .full m) :: r) = fillS (l.take off ++ ([.sl m] ++ l.drop (off + 1))) r := by
  subst h
  exact QfX (x := .full m) (v := .sl m) rfl rfl rfl k r
end Go.Am
namespace Go.Proofs.YtoahliipbclneaaGreat
open Go Go.Am
set_option linter.unusedVariables false
set_option maxRecDepth 4000
theorem eqBad (a b a' b' : Int) (c c' : Str) : eqS (C.ti Q7) (.agg [.int .i64 a, .int .i64 b, .str c]) (.agg [.int .i64 a', .int .i64 b', .str c']) = some (decide (TBad.mk a b c = TBad.mk a' b' c')) := by
 unfold eqS
 simp only [Qj1, QfH]
 have e1 : (a == a') = decide (a = a') := by rw [Bool.eq_iff_iff]; simp
 have e2 : (b == b') = decide (b = b') := by rw [Bool.eq_iff_iff]; simp
 have e3 : (c == c') = decide (c = c') := by rw [Bool.eq_iff_iff]; simp
 by_cases h1 : a = a' <;> by_cases h2 : b = b' <;> by_cases h3 : c = c' <;> simp [eqAll, TK.has, AV.eqb, e1, e2, e3, h1, h2, h3]
theorem QfP (a b a' b' : Int) (c c' : Str) : binS (C.ti Q7) .eql (.val (.agg [.int .i64 a, .int .i64 b, .str c])) (.val (.agg [.int .i64 a', .int .i64 b', .str c'])) = some (.val (.bool (decide (TBad.mk a b c = TBad.mk a' b' c')))) := by
 unfold binS
 simp only [Q0a, eqBad]
 rfl
theorem Q4e (a b a' b' : Int) (c c' : Str) : binS (C.ti Q7) .neq (.val (.agg [.int .i64 a, .int .i64 b, .str c])) (.val (.agg [.int .i64 a', .int .i64 b', .str c'])) = some (.val (.bool (!decide (TBad.mk a b c = TBad.mk a' b' c')))) := by
 unfold binS
 simp only [Q0a, eqBad]
 rfl
@[go_sem] theorem QeD (a b : Int) (c : Str) : binS (C.ti Q7) .eql (.val (.agg [.int .i64 a, .int .i64 b, .str c])) (.val (.agg [.int .i64 a, .int .i64 b, .str c])) = some (.val (.bool true)) := by
  rw [QfP, decide_eq_true rfl]
def kE1 : Exp := .mk 4 0 [] 0 [.mk 1 0 [] 1 [] true [] true [] true] false [] true [] true
def kP : Pat := .mk 6 0 [120] 0 [.mk 2 0 [121] 0 [] true] false
def kE2 : Exp := .mk 2 4 [78, 105, 108] 0 [] true [] true [] true
def kD : List Dec := [.mk 1 0 [] 0 [] true [.mk kP kE1] false [] true]
theorem k1 : rightN (nodesExp kE1) (deepExp kE1) = ⟨19, 0, []⟩ := by decide +kernel
theorem k2 : rightN (nodesExp kE2) (deepExp kE2) = ⟨8, 4, [78, 105, 108]⟩ := by decide +kernel
theorem k3 : countN (nodesDecs false kD) = 5 := by decide +kernel
theorem k4 : varsPat kP = [[120], [121]] := by decide +kernel
end Go.Proofs.YtoahliipbclneaaGreat
namespace Go.Proofs.YtoahliipbclneaaGreat
open Go Go.Am
set_option linter.unusedVariables false
set_option maxRecDepth 4000
theorem Q2Q (p q : Place) (h : p.ty.size < 2^40) (s : St) : cw (.f Q0s) [p.enc, q.enc] s = some (.ret (.val (.bool (eqPl p q))), s) := by
 have e1 := fun s => Q7K _ p.ty (Nat.le_refl _) h q.ty s
 simp only [Ty.enc, Ty.cells_eq] at e1
 rw [Q7J]
 simp only [go_sem, Nat.reduceAdd, Nat.reduceLeDiff, Place.enc, Place.cells_eq, List.map_cons, List.map_nil, e1]
 rfl
theorem Q5n (t u : List Place) (x y : Slot) (hx : x.list? = some (t.map Place.enc)) (hy : y.list? = some (u.map Place.enc)) (hl : t.length < 2^40) (he : t.length = u.length) (hw : ∀ p ∈ t, p.ty.size < 2^40) (s : St) : ∀ (suf suf' pre pre' : List Place) (i : Nat), pre ++ suf = t → pre' ++ suf' = u → i = pre.length → pre'.length = pre.length →
  Q1e x y (.val (.int .i64 i)) s = some (.ret (.val (.bool (eqTab suf suf'))), s)
 | [], suf', pre, pre', i, hp, hp', hi, hi' => by
   subst hi
   have : suf' = [] := by
    have h1 : t.length = pre.length := by rw [← hp]; simp
    have h2 : u.length = pre'.length + suf'.length := by rw [← hp']; simp
    exact List.eq_nil_of_length_eq_zero (by omega)
   subst this
   rw [Q4T]; simp only [go_sem, hx, List.length_map, Q9 (show pre = t by simpa using hp), eqTab]
 | p :: suf, [], pre, pre', i, hp, hp', hi, hi' => by
   have h1 : t.length = pre.length + (suf.length + 1) := by rw [← hp]; simp
   have h2 : u.length = pre'.length := by rw [← hp']; simp
   omega
 | p :: suf, q :: suf', pre, pre', i, hp, hp', hi, hi' => by
   subst hi
   obtain ⟨f1, f2, f3⟩ := Q8 hx hp (by omega) (Place.cells_len p) (by decide)
   obtain ⟨f4, f5, f6⟩ := Q8 hy hp' (by omega) (Place.cells_len q) (by decide)
   rw [hi'] at f5
   have ih := Q5n t u x y hx hy hl he hw s suf suf' (pre ++ [p]) (pre' ++ [q]) (pre.length + 1) (by simpa using hp) (by simpa using hp') (by simp) (by simp [hi'])
   have e1 := Q2Q p q (hw p (by rw [← hp]; simp)) s
   simp only [Place.enc, Place.cells_eq] at e1
   rw [Q4T]
   cases e : eqPl p q with
   | true =>
     rw [e] at e1
     simp only [go_sem, Nat.reduceAdd, Nat.reduceLeDiff, hx, List.length_map, f1, f2, f3, f5, Place.cells_eq, List.map_cons, List.map_nil, e1, Bool.not_true, ih, eqTab, e, Bool.true_and]
   | false =>
     rw [e] at e1
     simp only [go_sem, Nat.reduceAdd, Nat.reduceLeDiff, hx, List.length_map, f1, f2, f3, f5, Place.cells_eq, List.map_cons, List.map_nil, e1, Bool.not_false, eqTab, e, Bool.false_and]
theorem QaB (t u : List Place) (v w : AV) (hv : (Slot.val v).list? = some (t.map Place.enc)) (hw' : (Slot.val w).list? = some (u.map Place.enc)) (hl : t.length < 2^40) (hw : ∀ p ∈ t, p.ty.size < 2^40) (s : St) :
  cw (.f Q2u) [v, w] s = some (.ret (.val (.bool (eqTab t u))), s) := by
 rw [QcX]
 by_cases he : t.length = u.length
 ·have e1 := Q5n t u (.val v) (.val w) hv hw' hl he hw s t u [] [] 0 rfl rfl rfl rfl
  rw [show ((0 : Nat) : Int) = 0 from rfl] at e1
  have he' : decide ((t.length : Int) = (u.length : Int)) = true := by simp only [decide_eq_true_eq]; omega
  simp only [go_sem, hv, hw', List.length_map, he', Bool.not_true, e1]
 ·have he' : decide ((t.length : Int) = (u.length : Int)) = false := by simp only [decide_eq_false_iff_not]; omega
  have : eqTab t u = false := by
   cases h : eqTab t u with
   | false => rfl
   | true => exact absurd (Q7k h) he
  simp only [go_sem, hv, hw', List.length_map, he', Bool.not_false, this]
section
variable (t : List Place) (v : AV) (s0 : St)
end
theorem Qdj {l : List TNode} {D : Int} : decide (TBad.mk (rightN l D).kind (rightN l D).at_ (rightN l D).name = TBad.mk 0 0 []) = decide ((rightN l D).kind = 0) := by
 rw [decide_eq_decide]
 constructor
 ·intro h; injection h
 ·intro h
  rw [Q6v.1 h]; rfl
theorem QjJ {P pre suf : List Dec} {d : Dec} {x : Slot} (hx : x.list? = some (P.map Dec.enc)) (hp : pre ++ d :: suf = P) : sliceS (C.ti Qo) 7 x (some (.val (.int .i64 (pre.length : Int)))) (some (.val (.int .i64 ((pre.length + 1 : Nat) : Int)))) none = some (.val (.sl [d.enc])) := by
 have hlen : P.length = pre.length + (suf.length + 1) := by rw [← hp]; simp
 obtain ⟨w, e, hw⟩ := Q8J (t := C.ti Qo) QbJ hx (sz := 7) (fun x hx => by
  obtain ⟨p, _, rfl⟩ := List.mem_map.1 hx
  exact Dec.cells_len p) (by decide) (lo := some (.val (.int .i64 (pre.length : Int)))) (hi := some (.val (.int .i64 ((pre.length + 1 : Nat) : Int)))) (Q58 (n := pre.length + 1) (by rw [List.length_map]; omega)) (Q58 (by omega))
 have : ((P.map Dec.enc).take (pre.length + 1)).drop pre.length = [d.enc] := by
  rw [← hp, List.map_append, List.take_append, List.take_of_length_le (by simp), List.drop_append, List.drop_of_length_le (by simp)]
  simp
 rw [this] at hw
 rw [e, QjE hw]
end Go.Proofs.YtoahliipbclneaaGreat
namespace Go.Proofs.YtoahliipbclneaaGreat
open Go Go.Am
set_option linter.unusedVariables false
def RN (l : List TNode) : Prop := ∀ n ∈ l, n.wrong.1 = 0
theorem RN.l {a b : List TNode} (h : RN (a ++ b)) : RN a := fun n hn => h n (List.mem_append_left _ hn)
theorem RN.r {a b : List TNode} (h : RN (a ++ b)) : RN b := fun n hn => h n (List.mem_append_right _ hn)
theorem RN.t {x : TNode} {a : List TNode} (h : RN (x :: a)) : RN a := fun n hn => h n (List.mem_cons_of_mem _ hn)
theorem RN.cases : ∀ {l : List Case}, RN (nodesCases l) → ∀ e ∈ l, RN (nodesCase e)
 | x :: l, h, e, he => by
   simp only [nodesCases] at h
   rcases List.mem_cons.1 he with rfl | he
   ·exact h.l
   ·exact h.r.cases e he
theorem RN.decs {i : Bool} : ∀ {l : List Dec}, RN (nodesDecs i l) → ∀ e ∈ l, RN (nodesDec i e)
 | x :: l, h, e, he => by
   simp only [nodesDecs] at h
   rcases List.mem_cons.1 he with rfl | he
   ·exact h.l
   ·exact h.r.decs e he
theorem RN.funs : ∀ {l : List Fun}, RN (nodesFuns l) → ∀ e ∈ l, RN (nodesCase e.case)
 | x :: l, h, e, he => by
   simp only [nodesFuns] at h
   rcases List.mem_cons.1 he with rfl | he
   ·cases e; simp only [nodesFun] at h; exact h.l.t
   ·exact h.r.funs e he
end Go.Proofs.YtoahliipbclneaaGreat
namespace Go.Proofs.YtoahliipbclneaaGreat
open Go Go.Am
set_option linter.unusedVariables false
theorem Q90 {i : Bool} {d : Dec} (hr : RN (nodesDec i d)) : DecOK d := by
 have hw : wrongDecB d i = 0 := by cases d; simp only [nodesDec] at hr; exact hr _ List.mem_cons_self
 have D := Qdo hw
 refine ⟨D.kind, fun h => (D.data h).2.2.1, fun h => by have := (D.exn h).2.2; omega, fun c hc hh u hu hk => ?_⟩
 have hmem : ∀ (l : List Con), c ∈ l → .ty u c.at_ ∈ nodesCons l := fun l => by
  induction l with
  | nil => intro h; cases h
  | cons x l ih =>
    intro h
    simp only [nodesCons, List.mem_append]
    rcases List.mem_cons.1 h with rfl | h
    ·left
     simp only [nodesCon, hh, cond_true]
     refine List.mem_cons_of_mem _ ?_
     rw [ZK]
     exact List.mem_map.2 ⟨u, hu, rfl⟩
    ·exact .inr (ih h)
 have hn : .ty u c.at_ ∈ nodesDec i d := by
  cases d with
  | mk k a s p l lb cs cb f fb =>
  simp only [nodesDec]
  exact List.mem_cons_of_mem _ (List.mem_append_right _ (List.mem_append_right _ (hmem l hc)))
 have ht := QoP (t := u) (hr _ hn)
 exact ⟨(ht.2.1 hk).1, (ht.2.1 hk).2.1⟩
theorem QeZ : ∀ p ∈ startD, 0 ≤ p.vars := by
 intro p hp
 simp only [startD, List.mem_cons, List.not_mem_nil, or_false] at hp
 rcases hp with rfl | rfl | rfl | rfl | rfl | rfl <;> exact Int.le_refl _
end Go.Proofs.YtoahliipbclneaaGreat
namespace Go.Am
open Go
mutual
def nmTy : Ty → Ty
 | .mk k n s l _ => .mk k n s (nmTys l) true
def nmTys : List Ty → List Ty
 | [] => []
 | t :: l => nmTy t :: nmTys l
end
def nmAt (w : Bool) (a : Int) : Int := bif w then a else 0
mutual
def nmPat (w : Bool) : Pat → Pat
 | .mk k a s n l _ => .mk k (nmAt w a) s n (nmPats w l) true
def nmPats (w : Bool) : List Pat → List Pat
 | [] => []
 | t :: l => nmPat w t :: nmPats w l
end
def nmCon (w : Bool) (c : Con) : Con := ⟨c.name, nmAt w c.at_, c.has, nmTy c.arg⟩
def nmCons (w : Bool) : List Con → List Con
 | [] => []
 | t :: l => nmCon w t :: nmCons w l
mutual
def nmExp (w : Bool) : Exp → Exp
 | .mk k a s n l _ c _ d _ => .mk k (nmAt w a) s n (nmExps w l) true (nmCases w c) true (nmDecs w d) true
def nmExps (w : Bool) : List Exp → List Exp
 | [] => []
 | t :: l => nmExp w t :: nmExps w l
def nmCase (w : Bool) : Case → Case
 | .mk p e => .mk (nmPat w p) (nmExp w e)
def nmCases (w : Bool) : List Case → List Case
 | [] => []
 | t :: l => nmCase w t :: nmCases w l
def nmDec (w : Bool) : Dec → Dec
 | .mk k a s p l _ c _ f _ => .mk k (nmAt w a) s p (nmCons w l) true (nmCases w c) true (nmFuns w f) true
def nmDecs (w : Bool) : List Dec → List Dec
 | [] => []
 | t :: l => nmDec w t :: nmDecs w l
def nmFun (w : Bool) : Fun → Fun
 | .mk s a c => .mk s (nmAt w a) (nmCase w c)
def nmFuns (w : Bool) : List Fun → List Fun
 | [] => []
 | t :: l => nmFun w t :: nmFuns w l
end
theorem Q5K (w : Bool) (a b : Int) : atB w a b = true ↔ nmAt w a = nmAt w b := by cases w <;> simp [atB, nmAt]
mutual
theorem Q92 : ∀ t u : Ty, eqTy t u = true ↔ nmTy t = nmTy u
 | .mk k n s l b, .mk k' n' s' l' b' => by simp only [eqTy, nmTy, Ty.mk.injEq, Bool.and_eq_true, decide_eq_true_eq, Qc1 l l', and_true, and_assoc]
theorem Qc1 : ∀ l m : List Ty, eqTys l m = true ↔ nmTys l = nmTys m
 | [], [] => by simp [eqTys, nmTys]
 | [], _ :: _ => by simp [eqTys, nmTys]
 | _ :: _, [] => by simp [eqTys, nmTys]
 | t :: l, u :: m => by simp only [eqTys, nmTys, List.cons.injEq, Bool.and_eq_true, Q92 t u, Qc1 l m]
end
mutual
theorem QbZ (w : Bool) : ∀ t u : Pat, eqPat w t u = true ↔ nmPat w t = nmPat w u
 | .mk k a s n l b, .mk k' a' s' n' l' b' => by
   simp only [eqPat, nmPat, Pat.mk.injEq, Bool.and_eq_true, decide_eq_true_eq, Q9X w l l', Q5K, and_true]
   constructor <;> simp +contextual
theorem Q9X (w : Bool) : ∀ l m : List Pat, eqPats w l m = true ↔ nmPats w l = nmPats w m
 | [], [] => by simp [eqPats, nmPats]
 | [], _ :: _ => by simp [eqPats, nmPats]
 | _ :: _, [] => by simp [eqPats, nmPats]
 | t :: l, u :: m => by simp only [eqPats, nmPats, List.cons.injEq, Bool.and_eq_true, QbZ w t u, Q9X w l m]
end
theorem QgX (w : Bool) (c d : Con) : eqCon w c d = true ↔ nmCon w c = nmCon w d := by
 simp only [eqCon, nmCon, Con.mk.injEq, Bool.and_eq_true, decide_eq_true_eq, Q92, Q5K]
 constructor <;> simp +contextual
theorem Q9T (w : Bool) : ∀ l m : List Con, eqCons w l m = true ↔ nmCons w l = nmCons w m
 | [], [] => by simp [eqCons, nmCons]
 | [], _ :: _ => by simp [eqCons, nmCons]
 | _ :: _, [] => by simp [eqCons, nmCons]
 | t :: l, u :: m => by simp only [eqCons, nmCons, List.cons.injEq, Bool.and_eq_true, QgX w t u, Q9T w l m]
mutual
theorem QbY (w : Bool) : ∀ t u : Exp, eqExp w t u = true ↔ nmExp w t = nmExp w u
 | .mk k a s n l lb c cb d db, .mk k' a' s' n' l' lb' c' cb' d' db' => by
   simp only [eqExp, nmExp, Exp.mk.injEq, Bool.and_eq_true, decide_eq_true_eq, Q9V w l l', Q5y w c c', Q9U w d d', Q5K, and_true]
   constructor <;> simp +contextual
theorem Q9V (w : Bool) : ∀ l m : List Exp, eqExps w l m = true ↔ nmExps w l = nmExps w m
 | [], [] => by simp [eqExps, nmExps]
 | [], _ :: _ => by simp [eqExps, nmExps]
 | _ :: _, [] => by simp [eqExps, nmExps]
 | t :: l, u :: m => by simp only [eqExps, nmExps, List.cons.injEq, Bool.and_eq_true, QbY w t u, Q9V w l m]
theorem Q9S (w : Bool) : ∀ t u : Case, eqCase w t u = true ↔ nmCase w t = nmCase w u
 | .mk p e, .mk p' e' => by simp only [eqCase, nmCase, Case.mk.injEq, Bool.and_eq_true, QbZ w p p', QbY w e e']
theorem Q5y (w : Bool) : ∀ l m : List Case, eqCases w l m = true ↔ nmCases w l = nmCases w m
 | [], [] => by simp [eqCases, nmCases]
 | [], _ :: _ => by simp [eqCases, nmCases]
 | _ :: _, [] => by simp [eqCases, nmCases]
 | t :: l, u :: m => by simp only [eqCases, nmCases, List.cons.injEq, Bool.and_eq_true, Q9S w t u, Q5y w l m]
theorem QgY (w : Bool) : ∀ t u : Dec, eqDec w t u = true ↔ nmDec w t = nmDec w u
 | .mk k a s p l lb c cb f fb, .mk k' a' s' p' l' lb' c' cb' f' fb' => by
   simp only [eqDec, nmDec, Dec.mk.injEq, Bool.and_eq_true, decide_eq_true_eq, Q9T w l l', Q5y w c c', Q9W w f f', Q5K, and_true]
   constructor <;> simp +contextual
theorem Q9U (w : Bool) : ∀ l m : List Dec, eqDecs w l m = true ↔ nmDecs w l = nmDecs w m
 | [], [] => by simp [eqDecs, nmDecs]
 | [], _ :: _ => by simp [eqDecs, nmDecs]
 | _ :: _, [] => by simp [eqDecs, nmDecs]
 | t :: l, u :: m => by simp only [eqDecs, nmDecs, List.cons.injEq, Bool.and_eq_true, QgY w t u, Q9U w l m]
theorem QgZ (w : Bool) : ∀ t u : Fun, eqFun w t u = true ↔ nmFun w t = nmFun w u
 | .mk s a c, .mk s' a' c' => by
   simp only [eqFun, nmFun, Fun.mk.injEq, Bool.and_eq_true, decide_eq_true_eq, Q9S w c c', Q5K]
   constructor <;> simp +contextual
theorem Q9W (w : Bool) : ∀ l m : List Fun, eqFuns w l m = true ↔ nmFuns w l = nmFuns w m
 | [], [] => by simp [eqFuns, nmFuns]
 | [], _ :: _ => by simp [eqFuns, nmFuns]
 | _ :: _, [] => by simp [eqFuns, nmFuns]
 | t :: l, u :: m => by simp only [eqFuns, nmFuns, List.cons.injEq, Bool.and_eq_true, QgZ w t u, Q9W w l m]
end
end Go.Am
namespace Go.Proofs.YtoahliipbclneaaGreat
open Go Go.Am
set_option linter.unusedVariables false
mutual
theorem Qaj : ∀ t : Ty, ownTy t = nmTy t
 | .mk k n s l b => by simp only [ownTy, nmTy, QfD l]
theorem QfD : ∀ l : List Ty, ownTys l = nmTys l
 | [] => rfl
 | t :: l => by simp only [ownTys, nmTys, Qaj t, QfD l]
end
theorem Qi5 (t u : Ty) : eqTy t u = true ↔ ownTy t = ownTy u := by rw [Qaj, Qaj]; exact Q92 t u
theorem Qdw (p q : Place) : eqPl p q = true ↔ ownP p = ownP q := by
 cases p; cases q
 simp only [eqPl, ownP, Bool.and_eq_true, decide_eq_true_eq, beq_iff_eq, Qi5, Place.mk.injEq, and_assoc]
theorem Q5g : ∀ t u : List Place, eqTab t u = true ↔ TabEq t u
 | [], [] => ⟨fun _ => rfl, fun _ => rfl⟩
 | [], q :: u => by simp [eqTab, TabEq]
 | p :: t, [] => by simp [eqTab, TabEq]
 | p :: t, q :: u => by
   simp only [eqTab, Bool.and_eq_true, Qdw, Q5g t u, TabEq, List.map_cons, List.cons.injEq]
theorem QiC {P : List Dec} {D : Int} (h : rightN (nodesDecs false P) D = .zero) : RN (nodesDecs false P) := Q8H h
theorem Q7G {d : Dec} (h : okD d = true) : RN (nodesDec false d) := by
 simp only [okD, decide_eq_true_eq] at h
 exact (QiC (Q6v.1 h)).decs d (by simp)
end Go.Proofs.YtoahliipbclneaaGreat
namespace Go.Proofs.YtoahliipbclneaaGreat
open Go Go.Am
set_option linter.unusedVariables false
set_option maxRecDepth 4000
def kD11 : Dec := .mk 3 0 [111, 112, 116] 1 [⟨[78, 111, 110, 101], 0, false, .zero⟩, ⟨[83, 111, 109, 101], 0, true, .mk 1 0 [] [] true⟩] false [] true [] true
def kT11 : List Place := (addD startD kD11).1
def placeB (p : Place) : Bool := decide (p.name.length < 2^40) && (decide (p.data.length < 2^40) && (preTy p.ty).all fun u => decide (u.name.length < 2^40))
theorem Qho {p : Place} (h : placeB p = true) : PlaceOK p := by
 simp only [placeB, Bool.and_eq_true, decide_eq_true_eq, List.all_eq_true] at h
 refine ⟨h.1, h.2.1, ?_⟩
 intro n hn
 rw [ZK] at hn
 obtain ⟨u, hu, rfl⟩ := List.mem_map.1 hn
 exact h.2.2 u hu
theorem Qak {t : List Place} (h : t.all placeB = true) : ∀ p ∈ t, PlaceOK p := fun p hp => Qho (List.all_eq_true.1 h p hp)
theorem kstart_ok : TabOK startD := ⟨by decide +kernel, Qak (by decide +kernel)⟩
theorem kT11_ok : TabOK kT11 := ⟨by decide +kernel, Qak (by decide +kernel)⟩
theorem QjB : (addD startD kD11).2 = .zero := by decide +kernel
theorem Qfr : kT11.length = 8 := by decide +kernel
theorem Qhc : rightTD kT11 = true := by decide +kernel
def k11B (o : Option Place) : Bool := match o with
 | some p => decide (p.tag = 1) && decide (p.of_ = 2) && decide (p.vars = 1) && decide (p.ty.name = [45, 62])
 | none => false
theorem Qic : k11B (findD [83, 111, 109, 101] kT11) = true := by decide +kernel
theorem Q13 (s : St) : Ret (cw (.f Q16) [] s) s (.bool true) := by
 obtain ⟨s1, e1, g1⟩ := Q2H s
 have hst : (startD.map Place.enc) ≠ [] := by simp [startD]
 obtain ⟨s2, w, e2, hw, g2⟩ := Q3L startD kD11 (by decide) kstart_ok.wide (by decide) (by decide) (fun c hc => by
  simp only [kD11, Dec.cons, List.mem_cons, List.not_mem_nil, or_false] at hc
  rcases hc with rfl | rfl
  ·exact Q4q (by simp) (by simp)
  ·exact Q4q (by simp) (by simp)) (.sl (startD.map Place.enc)) rfl s1
 obtain ⟨s3, e3, g3⟩ := Q3g [83, 111, 109, 101] kT11 (by rw [Qfr]; decide) kT11_ok.wide w hw s2
 obtain ⟨s4, e4, g4⟩ := Q2G kT11 kT11_ok w hw s3
 have hf := Qic
 cases hfd : findD [83, 111, 109, 101] kT11 with
 | none => rw [hfd] at hf; cases hf
 | some p =>
   rw [hfd] at hf e3
   simp only [k11B, Bool.and_eq_true, decide_eq_true_eq] at hf
   obtain ⟨⟨⟨h1, h2⟩, h3⟩, h4⟩ := hf
   rw [QjB] at e2
   rw [Qhc] at e4
   have hlen : ((kT11.length : Nat) : Int) = 8 := by rw [Qfr]; rfl
   have hw' : (Slot.val w).list? = some (kT11.map Place.enc) := hw
   refine ⟨s4, ?_, ((g1.trans g2).trans g3).trans g4⟩
   simp only [foundD, Place.enc, Place.cells_eq, h1, h2, h3, h4] at e3
   simp only [kD11, Dec.enc, Dec.cells_mk, List.map_cons, List.map_nil, Q1K, Q4E, Con.enc, Con.cells, Ty.zero, Ty.cells_mk, TBad.enc, TBad.cells, TBad.zero] at e2
   rw [Qbf]
   simp only [go_sem, Nat.reduceAdd, Nat.reduceLeDiff, e1, e2, e3, e4, hw', List.length_map, hlen, QeD, decide_true]
theorem Q97 (d : Dec) (hs : d.size < 2^24) (hok : ∀ n ∈ nodesDecs false [d], n.ok) (s : St) : Ret (cw (.f Q28) [.sl [d.enc]] s) s (.bool (okD d)) := by
 obtain ⟨s1, e1, g1⟩ := Q9f [d] false s (by simp only [Dec.sizes]; omega) hok
 have e0 := QjJ (P := [d]) (pre := []) (suf := []) (d := d) (x := .val (.sl [d.enc])) rfl rfl
 simp only [List.length_nil, Nat.zero_add] at e0
 rw [show ((0 : Nat) : Int) = 0 from rfl, show ((1 : Nat) : Int) = 1 from rfl] at e0
 rw [Qbg, Q3S]
 simp only [TBad.enc, TBad.cells, List.map_cons, List.map_nil, Q1K] at e1
 have w1 : IntKind.i64.wrap 1 = 1 := by decide
 have h0 : decide ((0 : Int) < ((1 : Nat) : Int)) = true := by decide
 have h1 : decide ((1 : Int) < ((1 : Nat) : Int)) = false := by decide
 cases h : okD d with
 | true =>
   have h' : decide ((rightN (nodesDecs false [d]) (deepDecs [d] 0)).kind = 0) = true := h
   refine ⟨s1, ?_, g1⟩
   simp only [go_sem, Int.reduceAdd, List.length_singleton, h0, w1, e0, e1, Q4e, Qdj, h', Bool.not_true]
   rw [Q3S]
   simp only [go_sem, Int.reduceAdd, List.length_singleton, h1]
 | false =>
   have h' : decide ((rightN (nodesDecs false [d]) (deepDecs [d] 0)).kind = 0) = false := h
   refine ⟨s1, ?_, g1⟩
   simp only [go_sem, Int.reduceAdd, List.length_singleton, h0, w1, e0, e1, Q4e, Qdj, h', Bool.not_false]
end Go.Proofs.YtoahliipbclneaaGreat
namespace Go.Am
open Go
def nmNode (w : Bool) : TNode → TNode
 | .dec i d => .dec i (nmDec w d)
 | .exp e => .exp (nmExp w e)
 | .pat p => .pat (nmPat w p)
 | .ty t a => .ty (nmTy t) (nmAt w a)
 | .fn f => .fn (nmFun w f)
 | .con c => .con (nmCon w c)
theorem Q7y : ∀ l : List Ty, (nmTys l).length = l.length
 | [] => rfl
 | t :: l => by simp only [nmTys, List.length_cons, Q7y l]
theorem Qaf (w : Bool) : ∀ l : List Pat, (nmPats w l).length = l.length
 | [] => by simp only [nmPats]
 | t :: l => by simp only [nmPats, List.length_cons, Qaf w l]
theorem Qa9 (w : Bool) : ∀ l : List Con, (nmCons w l).length = l.length
 | [] => by simp only [nmCons]
 | t :: l => by simp only [nmCons, List.length_cons, Qa9 w l]
theorem Qac (w : Bool) : ∀ l : List Exp, (nmExps w l).length = l.length
 | [] => by simp only [nmExps]
 | t :: l => by simp only [nmExps, List.length_cons, Qac w l]
theorem Q5E (w : Bool) : ∀ l : List Case, (nmCases w l).length = l.length
 | [] => by simp only [nmCases]
 | t :: l => by simp only [nmCases, List.length_cons, Q5E w l]
theorem Qaa (w : Bool) : ∀ l : List Dec, (nmDecs w l).length = l.length
 | [] => by simp only [nmDecs]
 | t :: l => by simp only [nmDecs, List.length_cons, Qaa w l]
theorem Qad (w : Bool) : ∀ l : List Fun, (nmFuns w l).length = l.length
 | [] => by simp only [nmFuns]
 | t :: l => by simp only [nmFuns, List.length_cons, Qad w l]
mutual
theorem Qah (w : Bool) (a : Int) : ∀ t : Ty, nodesTy (nmAt w a) (nmTy t) = (nodesTy a t).map (nmNode w)
 | .mk k n s l b => by simp only [nmTy, nodesTy, List.map_cons, nmNode, Q8C w a l]
theorem Q8C (w : Bool) (a : Int) : ∀ l : List Ty, nodesTys (nmAt w a) (nmTys l) = (nodesTys a l).map (nmNode w)
 | [] => by simp only [nmTys, nodesTys, List.map_nil]
 | t :: l => by simp only [nmTys, nodesTys, List.map_append, Qah w a t, Q8C w a l]
end
mutual
theorem Q8B (w : Bool) : ∀ t : Pat, nodesPat (nmPat w t) = (nodesPat t).map (nmNode w)
 | .mk k a s n l b => by simp only [nmPat, nodesPat, List.map_cons, nmNode, Q7F w l]
theorem Q7F (w : Bool) : ∀ l : List Pat, nodesPats (nmPats w l) = (nodesPats l).map (nmNode w)
 | [] => by simp only [nmPats, nodesPats, List.map_nil]
 | t :: l => by simp only [nmPats, nodesPats, List.map_append, Q8B w t, Q7F w l]
end
theorem QeP (w : Bool) (c : Con) : nodesCon (nmCon w c) = (nodesCon c).map (nmNode w) := by
 obtain ⟨s, a, h, t⟩ := c
 cases h <;> simp only [nodesCon, nmCon, cond_true, cond_false, List.map_cons, List.map_nil, nmNode, Qah]
theorem Q7C (w : Bool) : ∀ l : List Con, nodesCons (nmCons w l) = (nodesCons l).map (nmNode w)
 | [] => by simp only [nmCons, nodesCons, List.map_nil]
 | t :: l => by simp only [nmCons, nodesCons, List.map_append, QeP w t, Q7C w l]
mutual
theorem Q8A (w : Bool) : ∀ t : Exp, nodesExp (nmExp w t) = (nodesExp t).map (nmNode w)
 | .mk k a s n l lb c cb d db => by simp only [nmExp, nodesExp, List.map_cons, List.map_append, nmNode, Q7D w l, Q3M w c, Q2O w true d]
theorem Q7D (w : Bool) : ∀ l : List Exp, nodesExps (nmExps w l) = (nodesExps l).map (nmNode w)
 | [] => by simp only [nmExps, nodesExps, List.map_nil]
 | t :: l => by simp only [nmExps, nodesExps, List.map_append, Q8A w t, Q7D w l]
theorem Q7B (w : Bool) : ∀ t : Case, nodesCase (nmCase w t) = (nodesCase t).map (nmNode w)
 | .mk p e => by simp only [nmCase, nodesCase, List.map_append, Q8B, Q8A w e]
theorem Q3M (w : Bool) : ∀ l : List Case, nodesCases (nmCases w l) = (nodesCases l).map (nmNode w)
 | [] => by simp only [nmCases, nodesCases, List.map_nil]
 | t :: l => by simp only [nmCases, nodesCases, List.map_append, Q7B w t, Q3M w l]
theorem QeQ (w i : Bool) : ∀ t : Dec, nodesDec i (nmDec w t) = (nodesDec i t).map (nmNode w)
 | .mk k a s p l lb c cb f fb => by simp only [nmDec, nodesDec, List.map_cons, List.map_append, nmNode, Q7C, Q3M w c, Q7E w f]
theorem Q2O (w i : Bool) : ∀ l : List Dec, nodesDecs i (nmDecs w l) = (nodesDecs i l).map (nmNode w)
 | [] => by simp only [nmDecs, nodesDecs, List.map_nil]
 | t :: l => by simp only [nmDecs, nodesDecs, List.map_append, QeQ w i t, Q2O w i l]
theorem QeR (w : Bool) : ∀ t : Fun, nodesFun (nmFun w t) = (nodesFun t).map (nmNode w)
 | .mk s a c => by simp only [nmFun, nodesFun, List.map_cons, nmNode, Q7B w c]
theorem Q7E (w : Bool) : ∀ l : List Fun, nodesFuns (nmFuns w l) = (nodesFuns l).map (nmNode w)
 | [] => by simp only [nmFuns, nodesFuns, List.map_nil]
 | t :: l => by simp only [nmFuns, nodesFuns, List.map_append, QeR w t, Q7E w l]
end
theorem Qha (w : Bool) (n : TNode) : (nmNode w n).isNode = n.isNode := by cases n <;> rfl
theorem Qgn (t : Ty) : wrongTyB (nmTy t) = wrongTyB t := by
 obtain ⟨k, n, s, l, b⟩ := t
 simp only [wrongTyB, nmTy, Ty.kind, Ty.n, Ty.name, Ty.args, Q7y]
theorem QbF {e f : Exp} (h1 : e.kind = f.kind) (h2 : e.name = f.name) (h3 : e.n = f.n) (h4 : e.kids.length = f.kids.length) (h5 : e.cases.length = f.cases.length) (h6 : e.decs.length = f.decs.length) : wrongExpB e = wrongExpB f := by
 unfold wrongExpB
 rw [h1, h2, h3, h4, h5, h6]
theorem QbG {e f : Pat} (h1 : e.kind = f.kind) (h2 : e.name = f.name) (h3 : e.n = f.n) (h4 : e.kids.length = f.kids.length) : wrongPatB e = wrongPatB f := by
 unfold wrongPatB
 rw [h1, h2, h3, h4]
theorem QbE {e f : Con} (h1 : e.name = f.name) (h2 : e.has = f.has) (h3 : e.arg.kind = f.arg.kind) (h4 : e.arg.n = f.arg.n) (h5 : e.arg.name = f.arg.name) (h6 : e.arg.args.length = f.arg.args.length) : wrongConB e = wrongConB f := by
 unfold wrongConB
 rw [h1, h2, h3, h4, h5, h6]
theorem QiS (w : Bool) (n : TNode) : (nmNode w n).wrong = n.wrong := by
 cases n with
 | dec i d => obtain ⟨k, a, s, p, l, lb, c, cb, f, fb⟩ := d; simp only [nmNode, nmDec, TNode.wrong, wrongDecB, Dec.kind, Dec.name, Dec.params, Dec.cons, Dec.case, Dec.funs, Qa9, Q5E, Qad]
 | exp e => obtain ⟨k, a, s, n, l, lb, c, cb, d, db⟩ := e; simp only [nmNode, nmExp, TNode.wrong]; rw [QbF (e := .mk k (nmAt w a) s n (nmExps w l) true (nmCases w c) true (nmDecs w d) true) (f := .mk k a s n l lb c cb d db) rfl rfl rfl (Qac w l) (Q5E w c) (Qaa w d)]; rfl
 | pat p => obtain ⟨k, a, s, n, l, b⟩ := p; simp only [nmNode, nmPat, TNode.wrong]; rw [QbG (e := .mk k (nmAt w a) s n (nmPats w l) true) (f := .mk k a s n l b) rfl rfl rfl (Qaf w l)]; rfl
 | ty t a => simp only [nmNode, TNode.wrong, Qgn]; obtain ⟨k, n, s, l, b⟩ := t; rfl
 | fn f => obtain ⟨s, a, c⟩ := f; simp only [nmNode, nmFun, TNode.wrong, Fun.name]
 | con c => obtain ⟨s, a, h, t⟩ := c; obtain ⟨k, n, s', l, b⟩ := t; simp only [nmNode, nmCon, nmTy, TNode.wrong]; rw [QbE (e := ⟨s, nmAt w a, h, .mk k n s' (nmTys l) true⟩) (f := ⟨s, a, h, .mk k n s' l b⟩) rfl rfl rfl rfl rfl (Q7y l)]
theorem QmV (w : Bool) (n : TNode) : (nmNode w n).at_ = nmAt w n.at_ := by
 cases n with
 | dec i d => obtain ⟨k, a, s, p, l, lb, c, cb, f, fb⟩ := d; simp only [nmNode, nmDec, TNode.at_, Dec.at_]
 | exp e => obtain ⟨k, a, s, n, l, lb, c, cb, d, db⟩ := e; simp only [nmNode, nmExp, TNode.at_, Exp.at_]
 | pat p => obtain ⟨k, a, s, n, l, b⟩ := p; simp only [nmNode, nmPat, TNode.at_, Pat.at_]
 | ty t a => rfl
 | fn f => obtain ⟨s, a, c⟩ := f; simp only [nmNode, nmFun, TNode.at_, Fun.at_]
 | con c => rfl
def TBad.bare (b : TBad) : TBad := ⟨b.kind, 0, b.name⟩
theorem Ql9 (w : Bool) (n : TNode) : (nmNode w n).bad = bif w then n.bad else n.bad.bare := by
 unfold TNode.bad
 rw [QiS, QmV]
 cases w
 ·simp only [cond_false, nmAt, mkBad, TBad.bare]
  cases decide (n.wrong.1 = 0) <;> rfl
 ·rfl
theorem Q5z (w : Bool) : ∀ l : List TNode, firstBad (l.map (nmNode w)) = bif w then firstBad l else (firstBad l).bare
 | [] => by cases w <;> rfl
 | n :: l => by
   simp only [List.map_cons, firstBad, Ql9, Q5z w l]
   cases w
   ·simp only [cond_false]
    by_cases h : n.bad.kind = 0
    ·rw [decide_eq_true (show (TBad.bare n.bad).kind = 0 from h), decide_eq_true h]; rfl
    ·rw [decide_eq_false (show ¬ (TBad.bare n.bad).kind = 0 from h), decide_eq_false h]; rfl
   ·simp only [cond_true]
theorem QbS (w : Bool) (l : List TNode) : countN (l.map (nmNode w)) = countN l := by
 unfold countN
 rw [List.filter_map, List.length_map]
 congr 2
 funext n
 exact Qha w n
end Go.Am
namespace Go.Am
open Go
mutual
theorem Qcf : ∀ t : Ty, (nmTy t).size = t.size
 | .mk k n s l b => by simp only [nmTy, Ty.size, Qag l]
theorem Qag : ∀ l : List Ty, Ty.sizes (nmTys l) = Ty.sizes l
 | [] => by simp only [nmTys]
 | t :: l => by simp only [nmTys, Ty.sizes, Qcf t, Qag l]
end
mutual
theorem Qae (w : Bool) : ∀ t : Pat, (nmPat w t).size = t.size
 | .mk k a s n l b => by simp only [nmPat, Pat.size, Q8z w l]
theorem Q8z (w : Bool) : ∀ l : List Pat, Pat.sizes (nmPats w l) = Pat.sizes l
 | [] => by simp only [nmPats]
 | t :: l => by simp only [nmPats, Pat.sizes, Qae w t, Q8z w l]
end
theorem Q8v (w : Bool) : ∀ l : List Con, Con.sizes (nmCons w l) = Con.sizes l
 | [] => by simp only [nmCons]
 | t :: l => by simp only [nmCons, Con.sizes, Con.size, nmCon, Qcf, Q8v w l]
mutual
theorem Qab (w : Bool) : ∀ t : Exp, (nmExp w t).size = t.size
 | .mk k a s n l lb c cb d db => by simp only [nmExp, Exp.size, Q8x w l, Q4F w c, Q8w w d]
theorem Q8x (w : Bool) : ∀ l : List Exp, Exp.sizes (nmExps w l) = Exp.sizes l
 | [] => by simp only [nmExps]
 | t :: l => by simp only [nmExps, Exp.sizes, Qab w t, Q8x w l]
theorem Q8u (w : Bool) : ∀ t : Case, (nmCase w t).size = t.size
 | .mk p e => by simp only [nmCase, Case.size, Qae, Qab w e]
theorem Q4F (w : Bool) : ∀ l : List Case, Case.sizes (nmCases w l) = Case.sizes l
 | [] => by simp only [nmCases]
 | t :: l => by simp only [nmCases, Case.sizes, Q8u w t, Q4F w l]
theorem Qg7 (w : Bool) : ∀ t : Dec, (nmDec w t).size = t.size
 | .mk k a s p l lb c cb f fb => by simp only [nmDec, Dec.size, Q8v, Q4F w c, Q8y w f]
theorem Q8w (w : Bool) : ∀ l : List Dec, Dec.sizes (nmDecs w l) = Dec.sizes l
 | [] => by simp only [nmDecs]
 | t :: l => by simp only [nmDecs, Dec.sizes, Qg7 w t, Q8w w l]
theorem Qg8 (w : Bool) : ∀ t : Fun, (nmFun w t).size = t.size
 | .mk s a c => by simp only [nmFun, Fun.size, Q8u w c]
theorem Q8y (w : Bool) : ∀ l : List Fun, Fun.sizes (nmFuns w l) = Fun.sizes l
 | [] => by simp only [nmFuns]
 | t :: l => by simp only [nmFuns, Fun.sizes, Qg8 w t, Q8y w l]
end
end Go.Am
namespace Go.Am
open Go
mutual
theorem QbV : ∀ t : Ty, deepTy (nmTy t) = deepTy t
 | .mk k n s l b => by simp only [nmTy, deepTy, Q9Q l]
theorem Q9Q : ∀ (l : List Ty) (n : Int), deepTys (nmTys l) n = deepTys l n
 | [], n => by simp only [nmTys]
 | t :: l, n => by simp only [nmTys, deepTys, QbV t, Q9Q l]
end
mutual
theorem Q6e (w : Bool) : ∀ t : Pat, deepPat (nmPat w t) = deepPat t
 | .mk k a s n l b => by simp only [nmPat, deepPat, Q8k w l]
theorem Q8k (w : Bool) : ∀ (l : List Pat) (n : Int), deepPats (nmPats w l) n = deepPats l n
 | [], n => by simp only [nmPats]
 | t :: l, n => by simp only [nmPats, deepPats, Q6e w t, Q8k w l]
end
theorem Q8h (w : Bool) : ∀ (l : List Con) (n : Int), deepCons (nmCons w l) n = deepCons l n
 | [], n => by simp only [nmCons]
 | t :: l, n => by simp only [nmCons, deepCons, nmCon, QbV, Q8h w l]
mutual
theorem Q6d (w : Bool) : ∀ t : Exp, deepExp (nmExp w t) = deepExp t
 | .mk k a s n l lb c cb d db => by simp only [nmExp, deepExp, Q8i w l, Q4D w c, Q3n w d]
theorem Q8i (w : Bool) : ∀ (l : List Exp) (n : Int), deepExps (nmExps w l) n = deepExps l n
 | [], n => by simp only [nmExps]
 | t :: l, n => by simp only [nmExps, deepExps, Q6d w t, Q8i w l]
theorem Q4D (w : Bool) : ∀ (l : List Case) (n : Int), deepCases (nmCases w l) n = deepCases l n
 | [], n => by simp only [nmCases]
 | .mk p e :: l, n => by simp only [nmCases, nmCase, deepCases, Q6e, Q6d w e, Q4D w l]
theorem Q3n (w : Bool) : ∀ (l : List Dec) (n : Int), deepDecs (nmDecs w l) n = deepDecs l n
 | [], n => by simp only [nmDecs]
 | .mk k a s p l lb c cb f fb :: r, n => by simp only [nmDecs, nmDec, deepDecs, Q8h, Q4D w c, Q8j w f, Q3n w r]
theorem Q8j (w : Bool) : ∀ (l : List Fun) (n : Int), deepFuns (nmFuns w l) n = deepFuns l n
 | [], n => by simp only [nmFuns]
 | .mk s a c :: l, n => by simp only [nmFuns, nmFun, deepFuns, QeI w c, Q8j w l]
theorem QeI (w : Bool) : ∀ c : Case, deepCase (nmCase w c) = deepCase c
 | .mk p e => by simp only [nmCase, deepCase, Q6e, Q6d w e]
end
mutual
theorem Qbi : ∀ t : Ty, nmTy (nmTy t) = nmTy t
 | .mk k n s l b => by simp only [nmTy, QdV l]
theorem QdV : ∀ l : List Ty, nmTys (nmTys l) = nmTys l
 | [] => by simp only [nmTys]
 | t :: l => by simp only [nmTys, Qbi t, QdV l]
end
mutual
theorem QdU (w : Bool) : ∀ t : Pat, nmPat false (nmPat w t) = nmPat false t
 | .mk k a s n l b => by simp only [nmPat, Qcl w l, nmAt, cond_false]
theorem Qcl (w : Bool) : ∀ l : List Pat, nmPats false (nmPats w l) = nmPats false l
 | [] => by simp only [nmPats]
 | t :: l => by simp only [nmPats, QdU w t, Qcl w l]
end
theorem Qch (w : Bool) : ∀ l : List Con, nmCons false (nmCons w l) = nmCons false l
 | [] => by simp only [nmCons]
 | t :: l => by simp only [nmCons, nmCon, Qbi, Qch w l, nmAt, cond_false]
mutual
theorem QdT (w : Bool) : ∀ t : Exp, nmExp false (nmExp w t) = nmExp false t
 | .mk k a s n l lb c cb d db => by simp only [nmExp, Qcj w l, Q6q w c, Qci w d, nmAt, cond_false]
theorem Qcj (w : Bool) : ∀ l : List Exp, nmExps false (nmExps w l) = nmExps false l
 | [] => by simp only [nmExps]
 | t :: l => by simp only [nmExps, QdT w t, Qcj w l]
theorem Qcg (w : Bool) : ∀ t : Case, nmCase false (nmCase w t) = nmCase false t
 | .mk p e => by simp only [nmCase, QdU, QdT w e]
theorem Q6q (w : Bool) : ∀ l : List Case, nmCases false (nmCases w l) = nmCases false l
 | [] => by simp only [nmCases]
 | t :: l => by simp only [nmCases, Qcg w t, Q6q w l]
theorem Qir (w : Bool) : ∀ t : Dec, nmDec false (nmDec w t) = nmDec false t
 | .mk k a s p l lb c cb f fb => by simp only [nmDec, Qch, Q6q w c, Qck w f, nmAt, cond_false]
theorem Qci (w : Bool) : ∀ l : List Dec, nmDecs false (nmDecs w l) = nmDecs false l
 | [] => by simp only [nmDecs]
 | t :: l => by simp only [nmDecs, Qir w t, Qci w l]
theorem Qis (w : Bool) : ∀ t : Fun, nmFun false (nmFun w t) = nmFun false t
 | .mk s a c => by simp only [nmFun, Qcg w c, nmAt, cond_false]
theorem Qck (w : Bool) : ∀ l : List Fun, nmFuns false (nmFuns w l) = nmFuns false l
 | [] => by simp only [nmFuns]
 | t :: l => by simp only [nmFuns, Qis w t, Qck w l]
end
end Go.Am