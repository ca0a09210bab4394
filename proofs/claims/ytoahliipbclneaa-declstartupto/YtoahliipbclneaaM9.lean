/- A part of the proof: STree3, STree4, STree5, STree6, STree7. -/
import Derived.Test.YtoahliipbclneaaM6
import Derived.Test.YtoahliipbclneaaM7
import Derived.Test.YtoahliipbclneaaM8
set_option linter.unusedVariables false
set_option linter.unusedSimpArgs false
namespace Go.Proofs.Ytoahliipbclneaa
open Go Go.Am
set_option linter.unusedVariables false
set_option maxRecDepth 4000
theorem Q41 (nd : TNode) (r : List AV) (s : St) : cw (.f Q0P) [nd.thing r] s = some (.ret (.val (.bool nd.isNode)), s) := by
 rw [Q55]
 cases nd <;> simp only [go_sem, Nat.reduceAdd, TNode.thing, TNode.isNode]
theorem Q3K (nd : TNode) (r : List AV) (s : St) (h : nd.name.length < 2^40) : cw (.f ZC) [nd.thing r] s = some (.ret (.val nd.bad.enc), s) := by
 rw [Q4q]
 have key : ∀ (e a : Int) (nm : Str) (v : List Slot) (s : St), v.getD 7 .und = .val (.int .i64 a) → v.length = 8 → Qo v [.val (.int .i64 0), .val (.int .i64 0), .val (.str [])] (.val (.int .i64 e)) (.val (.str nm)) s = some (.ret (.val (mkBad e a nm).enc), s) := by
  intro e a nm v s hv hl
  have hd : (v.drop 7).take 1 = [.val (.int .i64 a)] := by
   match v, hl with
   | [_, _, _, _, _, _, _, x], _ => simpa using hv
  rw [Q3t]
  by_cases h0 : e = 0
  ·subst h0
   simp only [go_sem, Int.reduceEq, Nat.reduceAdd, Nat.reduceLeDiff, hd]
   rfl
  ·by_cases h8 : e = 8
   ·subst h8
    simp only [go_sem, Int.reduceEq, Nat.reduceAdd, Nat.reduceLeDiff, hd]
    rfl
   ·simp only [go_sem, Nat.reduceAdd, Nat.reduceLeDiff, hd, decide_eq_false h0, decide_eq_false h8, mkBad]
    rfl
 cases nd with
 | dec inn d =>
   have hn : d.name.length < 2^62 := by simp only [TNode.name] at h; omega
   have hw := fun s => Q57 d inn d.at_ r s hn
   obtain ⟨k, a, nm, p, l, nb, c, cb, f, fb⟩ := d
   simp only [go_sem, Exp.enc, Pat.enc, Ty.enc, Dec.enc] at hw
   simp only [go_sem, Nat.reduceAdd, Nat.reduceLeDiff, TNode.thing, hw]
   exact key _ _ _ _ _ rfl rfl
 | exp e =>
   have hn : e.name.length < 2^62 := by simp only [TNode.name] at h; omega
   have hw := fun s => Q58 e s hn
   obtain ⟨k, a, nm, n, l, lb, c, cb, d, db⟩ := e
   simp only [go_sem, Exp.enc, Pat.enc, Ty.enc, Dec.enc] at hw
   simp only [go_sem, Nat.reduceAdd, Nat.reduceLeDiff, TNode.thing, hw]
   exact key _ _ _ _ _ rfl rfl
 | pat e =>
   have hn : e.name.length < 2^62 := by simp only [TNode.name] at h; omega
   have hw := fun s => Q59 e s hn
   obtain ⟨k, a, nm, n, l, lb⟩ := e
   simp only [go_sem, Exp.enc, Pat.enc, Ty.enc, Dec.enc] at hw
   simp only [go_sem, Nat.reduceAdd, Nat.reduceLeDiff, TNode.thing, hw]
   exact key _ _ _ _ _ rfl rfl
 | ty e a =>
   have hn : e.name.length < 2^62 := by simp only [TNode.name] at h; omega
   have hw := fun s => Q5o e s hn
   obtain ⟨k, n, nm, l, lb⟩ := e
   simp only [go_sem, Exp.enc, Pat.enc, Ty.enc, Dec.enc] at hw
   simp only [go_sem, Nat.reduceAdd, Nat.reduceLeDiff, TNode.thing, hw]
   exact key _ _ _ _ _ rfl rfl
 | fn f =>
   have hn : f.name.length < 2^62 := by simp only [TNode.name] at h; omega
   have hw := fun s => Q0m f.name s hn
   obtain ⟨nm, a, c⟩ := f
   simp only [Fun.name] at hw
   have k0 := fun v s h1 h2 => key 0 a nm v s h1 h2
   have k8 := fun v s h1 h2 => key 8 a nm v s h1 h2
   simp only [go_sem, Nat.reduceAdd, Nat.reduceLeDiff, TNode.thing, hw, Fun.at_]
   show _ = some (Out.ret (.val (mkBad (bif !lowB nm then 8 else 0) a nm).enc), s)
   cases lowB nm
   ·simp only [go_sem]; exact key 8 a nm _ s rfl rfl
   ·simp only [go_sem]; exact key 0 a nm _ s rfl rfl
 | con c =>
   have hn : c.name.length < 2^62 := by simp only [TNode.name] at h; omega
   have hw := fun s => Q56 c s hn
   obtain ⟨nm, a, hs, arg⟩ := c
   simp only [go_sem, Con.enc, Con.cells] at hw
   simp only [go_sem, Nat.reduceAdd, Nat.reduceLeDiff, TNode.thing, Con.cells, hw]
   exact key _ _ _ _ _ rfl rfl
end Go.Proofs.Ytoahliipbclneaa
namespace Go.Proofs.Ytoahliipbclneaa
open Go Go.Am
set_option linter.unusedVariables false
set_option maxRecDepth 4000
theorem Q2Q (L : List Ty) (x : Slot) (hx : x.list? = some (L.map Ty.enc)) (hl : L.length < 2^40) : ∀ (suf pre : List Ty) (n : Int) (s : St) (i : Nat), pre ++ suf = L → i = pre.length → (∀ t ∈ suf, ∀ s, cw (.f Zw) [t.enc] s = some (.ret (.val (.int .i64 (deepTy t))), s)) → 0 ≤ n → n < 2^40 → Ty.sizes suf < 2^40 →
  Q07 (.val (.int .i64 n)) x (.val (.int .i64 L.length)) (.val (.int .i64 i)) s = some (.ret (.val (.int .i64 (deepTys suf n + 1))), s)
 | [], pre, n, s, i, h, hi, H, h0, h1, h2 => by
   subst hi
   rw [Q2l]; simp only [go_sem, Qd (by simpa using h)]
   rw [wrap64 (by omega) (by omega)]; rfl
 | t :: suf, pre, n, s, i, h, hi, H, h0, h1, h2 => by
   subst hi
   obtain ⟨f1, f2, f3⟩ := Q8 hx h (by omega) (Ty.cells_len t) (by decide)
   have ht := Q38 t
   have hm := Zc n (deepTy t) (2^40 - 1)
   have hn := Zb n (deepTy t)
   simp only [Ty.sizes] at h2
   rw [Q2l]; simp only [go_sem, Nat.reduceAdd, Nat.reduceLeDiff, f1, f2, f3, H t (List.mem_cons_self)]
   exact Q2Q L x hx hl suf (pre ++ [t]) _ s _ (by simpa using h) (by simp) (fun u hu => H u (List.mem_cons_of_mem _ hu)) (by omega) (by omega) (by omega)
theorem Q2R : ∀ (m : Nat) (t : Ty) (s : St), t.size ≤ m → t.size < 2^40 → cw (.f Zw) [t.enc] s = some (.ret (.val (.int .i64 (deepTy t))), s)
 | 0, .mk _ _ _ _ _, _, h, _ => by simp only [Ty.size] at h; omega
 | m + 1, .mk k n nm l nl, s, h, h' => by
   simp only [Ty.size] at h h'
   have hl := Ty.len_sizes l
   rw [Q7D]; simp only [go_sem, Nat.reduceAdd, Nat.reduceLeDiff, Ty.enc]
   exact Q2Q l _ (by simp only [go_sem]) (by omega) l [] 0 s 0 rfl rfl (fun u hu s => by have := Ty.mem_sizes hu; exact Q2R m u s (by omega) (by omega)) (by omega) (by omega) (by omega)
theorem Q2j (L : List Pat) (x : Slot) (hx : x.list? = some (L.map Pat.enc)) (hl : L.length < 2^40) : ∀ (suf pre : List Pat) (n : Int) (s : St) (i : Nat), pre ++ suf = L → i = pre.length → (∀ t ∈ suf, ∀ s, cw (.f Zn) [t.enc] s = some (.ret (.val (.int .i64 (deepPat t))), s)) → 0 ≤ n → n < 2^40 → Pat.sizes suf < 2^40 →
  ZJ (.val (.int .i64 n)) x (.val (.int .i64 L.length)) (.val (.int .i64 i)) s = some (.ret (.val (.int .i64 (deepPats suf n + 1))), s)
 | [], pre, n, s, i, h, hi, H, h0, h1, h2 => by
   subst hi
   rw [Q26]; simp only [go_sem, Qd (by simpa using h)]
   rw [wrap64 (by omega) (by omega)]; rfl
 | t :: suf, pre, n, s, i, h, hi, H, h0, h1, h2 => by
   subst hi
   obtain ⟨f1, f2, f3⟩ := Q8 hx h (by omega) (Pat.cells_len t) (by decide)
   have ht := Q1v t
   have hm := Zc n (deepPat t) (2^40 - 1)
   have hn := Zb n (deepPat t)
   simp only [Pat.sizes] at h2
   rw [Q26]; simp only [go_sem, Nat.reduceAdd, Nat.reduceLeDiff, f1, f2, f3, H t (List.mem_cons_self)]
   exact Q2j L x hx hl suf (pre ++ [t]) _ s _ (by simpa using h) (by simp) (fun u hu => H u (List.mem_cons_of_mem _ hu)) (by omega) (by omega) (by omega)
theorem Q2k : ∀ (m : Nat) (t : Pat) (s : St), t.size ≤ m → t.size < 2^40 → cw (.f Zn) [t.enc] s = some (.ret (.val (.int .i64 (deepPat t))), s)
 | 0, .mk _ _ _ _ _ _, _, h, _ => by simp only [Pat.size] at h; omega
 | m + 1, .mk k a nm n l nl, s, h, h' => by
   simp only [Pat.size] at h h'
   have hl := Pat.len_sizes l
   rw [Q75]; simp only [go_sem, Nat.reduceAdd, Nat.reduceLeDiff, Pat.enc]
   exact Q2j l _ (by simp only [go_sem]) (by omega) l [] 0 s 0 rfl rfl (fun u hu s => by have := Pat.mem_sizes hu; exact Q2k m u s (by omega) (by omega)) (by omega) (by omega) (by omega)
def deepExpOK (t : Exp) : Prop := ∀ s, cw (.f ZV) [t.enc] s = some (.ret (.val (.int .i64 (deepExp t))), s)
def deepCasesOK (l : List Case) : Prop := ∀ (v : AV) (s : St), (Slot.val v).list? = some (l.map Case.enc) → cw (.f QN) [v] s = some (.ret (.val (.int .i64 (deepCases l 0))), s)
def deepDecsOK (l : List Dec) : Prop := ∀ (v : AV) (s : St), (Slot.val v).list? = some (l.map Dec.enc) → cw (.f QI) [v] s = some (.ret (.val (.int .i64 (deepDecs l 0))), s)
theorem Q2i (L : List Exp) (x : Slot) (hx : x.list? = some (L.map Exp.enc)) (hl : L.length < 2^40) : ∀ (suf pre : List Exp) (n : Int) (s : St) (i : Nat), pre ++ suf = L → i = pre.length → (∀ t ∈ suf, deepExpOK t) → 0 ≤ n → n < 2^40 → Exp.sizes suf < 2^40 →
  ZI (.val (.int .i64 n)) x (.val (.int .i64 L.length)) (.val (.int .i64 i)) s = some (.ret (.val (.int .i64 (deepExps suf n + 1))), s)
 | [], pre, n, s, i, h, hi, H, h0, h1, h2 => by
   subst hi
   rw [Q25]; simp only [go_sem, Qd (by simpa using h)]
   rw [wrap64 (by omega) (by omega)]; rfl
 | t :: suf, pre, n, s, i, h, hi, H, h0, h1, h2 => by
   subst hi
   obtain ⟨f1, f2, f3⟩ := Q8 hx h (by omega) (Exp.cells_len t) (by decide)
   have ht := Q1u t
   have hm := Zc n (deepExp t) (2^40 - 1)
   have hn := Zb n (deepExp t)
   simp only [Exp.sizes] at h2
   rw [Q25]; simp only [go_sem, Nat.reduceAdd, Nat.reduceLeDiff, f1, f2, f3, H t (List.mem_cons_self) s]
   exact Q2i L x hx hl suf (pre ++ [t]) _ s _ (by simpa using h) (by simp) (fun u hu => H u (List.mem_cons_of_mem _ hu)) (by omega) (by omega) (by omega)
theorem Q0t (L : List Case) (x : Slot) (hx : x.list? = some (L.map Case.enc)) (hl : L.length < 2^40) : ∀ (suf pre : List Case) (n : Int) (s : St) (i : Nat), pre ++ suf = L → i = pre.length → (∀ t ∈ suf, deepExpOK t.exp) → 0 ≤ n → n < 2^40 → Case.sizes suf < 2^40 →
  Zh (.val (.int .i64 n)) x (.val (.int .i64 L.length)) (.val (.int .i64 i)) s = some (.ret (.val (.int .i64 (deepCases suf n))), s)
 | [], pre, n, s, i, h, hi, H, h0, h1, h2 => by
   subst hi
   rw [Q1A]; simp only [go_sem, Qd (by simpa using h)]; rfl
 | .mk p e :: suf, pre, n, s, i, h, hi, H, h0, h1, h2 => by
   subst hi
   obtain ⟨f1, f2, f3⟩ := Q8 hx h (by omega) (Case.cells_len (.mk p e)) (by decide)
   have ht := Q1u e
   have hp := Q1v p
   simp only [Case.sizes, Case.size] at h2
   have h4 := Zb n (deepPat p)
   have h5 := Zb (maxI n (deepPat p)) (deepExp e)
   have h6 := Zc n (deepPat p) (2^40 - 1) (by omega) (by omega)
   have h7 := Zc (maxI n (deepPat p)) (deepExp e) (2^40 - 1) (by omega) (by omega)
   have He : deepExpOK e := H (.mk p e) (List.mem_cons_self)
   rw [Q1A]; simp only [go_sem, Nat.reduceAdd, Nat.reduceLeDiff, Nat.reduceSub, f1, f2, f3, Q2k _ p _ (Nat.le_refl _) (show p.size < 2^40 by omega), He s]
   exact Q0t L x hx hl suf (pre ++ [.mk p e]) _ s _ (by simpa using h) (by simp) (fun u hu => H u (List.mem_cons_of_mem _ hu)) (by omega) (by omega) (by omega)
theorem Q06 (L : List Con) (x : Slot) (hx : x.list? = some (L.map Con.enc)) (hl : L.length < 2^40) (y1 x11 x12 : Slot) (n0 : Int) (j : Nat) : ∀ (suf pre : List Con) (n : Int) (s : St) (i : Nat), pre ++ suf = L → i = pre.length → 0 ≤ n → n < 2^40 → Con.sizes suf < 2^40 → j < 2^40 →
  Z3 (.val (.int .i64 n0)) (.val (.int .i64 n)) x11 x12 (.val (.int .i64 j)) x (.val (.int .i64 L.length)) (.val (.int .i64 i)) s = QO (.val (.int .i64 (maxI n0 (deepCons suf n + 1)))) x11 x12 (.val (.int .i64 (j + 1 : Nat))) s
 | [], pre, n, s, i, h, hi, h0, h1, h2, hj => by
   subst hi
   rw [Q1F]; simp only [go_sem, Qd (by simpa using h)]
   rw [wrap64 (n := n + 1) (by omega) (by omega), wrap64 (by omega) (by omega)]; rfl
 | c :: suf, pre, n, s, i, h, hi, h0, h1, h2, hj => by
   subst hi
   obtain ⟨f1, f2, f3⟩ := Q8 hx h (by omega) (Con.cells_len c) (by decide)
   have ht := Q38 c.arg
   simp only [Con.sizes, Con.size] at h2
   have hm := Zc n (deepTy c.arg) (2^40 - 1)
   have hn := Zb n (deepTy c.arg)
   obtain ⟨nm, a, hs, arg⟩ := c
   dsimp only at ht hm hn h2
   rw [Q1F]; simp only [go_sem, Nat.reduceAdd, Nat.reduceLeDiff, f1, f2, f3, Con.cells]
   cases hs with
   | false =>
     simp only [go_sem]
     exact Q06 L x hx hl y1 x11 x12 n0 j suf (pre ++ [_]) n s _ (by simpa using h) (by simp) (by omega) (by omega) (by omega) hj
   | true =>
     simp only [go_sem, Q2R _ arg _ (Nat.le_refl _) (show arg.size < 2^40 by omega)]
     exact Q06 L x hx hl y1 x11 x12 n0 j suf (pre ++ [_]) _ s _ (by simpa using h) (by simp) (by omega) (by omega) (by omega) hj
theorem Q1d (L : List Fun) (x : Slot) (hx : x.list? = some (L.map Fun.enc)) (hl : L.length < 2^40) (d : Dec) (x11 x12 : Slot) (n0 : Int) (j : Nat) (hd : Con.sizes d.cons < 2^40) : ∀ (suf pre : List Fun) (n : Int) (s : St) (i : Nat), pre ++ suf = L → i = pre.length → (∀ t ∈ suf, deepCasesOK [t.case]) → 0 ≤ n → n < 2^40 → Fun.sizes suf < 2^40 → j < 2^40 →
  Zv (.val (.int .i64 n0)) (d.cells.map .val) (.val (.int .i64 n)) x11 x12 (.val (.int .i64 j)) x (.val (.int .i64 L.length)) (.val (.int .i64 i)) s = QO (.val (.int .i64 (maxI n0 (deepCons d.cons (deepFuns suf n) + 1)))) x11 x12 (.val (.int .i64 (j + 1 : Nat))) s
 | [], pre, n, s, i, h, hi, H, h0, h1, h2, hj => by
   subst hi
   have hc := Con.len_sizes d.cons
   rw [Q1E]; simp only [go_sem, Qd (by simpa using h), Dec.cells_eq]
   exact Q06 d.cons _ (by simp only [go_sem]) (by omega) x x11 x12 n0 j d.cons [] n s 0 rfl rfl h0 h1 hd hj
 | .mk nm a c :: suf, pre, n, s, i, h, hi, H, h0, h1, h2, hj => by
   subst hi
   obtain ⟨f1, f2, f3⟩ := Q8 hx h (by omega) (Fun.cells_len (.mk nm a c)) (by decide)
   have ht := Q5s c
   simp only [Fun.sizes, Fun.size] at h2
   have hm := Zc n (deepCase c) (2^40 - 1)
   have hn := Zb n (deepCase c)
   have hc : ∀ s, cw (.f QN) [.sl [c.enc]] s = some (.ret (.val (.int .i64 (deepCase c))), s) := fun s => by
    rw [H (.mk nm a c) (List.mem_cons_self) (.sl [c.enc]) s (by simp only [go_sem]; rfl)]
    obtain ⟨p, e⟩ := c
    simp only [Fun.case, deepCases, deepCase]
   rw [Q1E]; simp only [go_sem, Nat.reduceAdd, Nat.reduceLeDiff, f1, f2, f3, hc]
   exact Q1d L x hx hl d x11 x12 n0 j hd suf (pre ++ [_]) _ s _ (by simpa using h) (by simp) (fun u hu => H u (List.mem_cons_of_mem _ hu)) (by omega) (by omega) (by omega) hj
theorem Q0D (L : List Dec) (x : Slot) (hx : x.list? = some (L.map Dec.enc)) (hl : L.length < 2^40) : ∀ (suf pre : List Dec) (n : Int) (s : St) (i : Nat), pre ++ suf = L → i = pre.length → (∀ d ∈ suf, deepCasesOK d.case ∧ ∀ f ∈ d.funs, deepCasesOK [f.case]) → 0 ≤ n → n < 2^40 → Dec.sizes suf < 2^40 →
  QO (.val (.int .i64 n)) x (.val (.int .i64 L.length)) (.val (.int .i64 i)) s = some (.ret (.val (.int .i64 (deepDecs suf n))), s)
 | [], pre, n, s, i, h, hi, H, h0, h1, h2 => by
   subst hi
   rw [Q1D]; simp only [go_sem, Qd (by simpa using h)]; rfl
 | .mk k a nm p l nb c cb f fb :: suf, pre, n, s, i, h, hi, H, h0, h1, h2 => by
   subst hi
   obtain ⟨f1, f2, f3⟩ := Q8 hx h (by omega) (Dec.cells_len (.mk k a nm p l nb c cb f fb)) (by decide)
   obtain ⟨hC, hF⟩ := H (.mk k a nm p l nb c cb f fb) (List.mem_cons_self)
   simp only [Dec.case, Dec.funs] at hC hF
   simp only [Dec.sizes, Dec.size] at h2
   have g1 := Q01 c 0
   have g2 := Q0W f (deepCases c 0)
   have g3 := Q1S l (deepFuns f (deepCases c 0))
   have g5 := Zb n (deepCons l (deepFuns f (deepCases c 0)) + 1)
   have g6 := Zc n (deepCons l (deepFuns f (deepCases c 0)) + 1) (2^40 - 1) (by omega) (by omega)
   have g7 := Fun.len_sizes f
   have hlen : pre.length < L.length := by rw [← h]; simp
   have hc1 := fun s => hC (encS cb (c.map Case.enc)) s (by simp only [go_sem])
   rw [Q1D]; simp only [go_sem, Nat.reduceAdd, Nat.reduceLeDiff, f1, f2, hc1]
   have := Q1d f (.val (encS fb (f.map Fun.enc))) (by simp only [go_sem]) (by omega) (.mk k a nm p l nb c cb f fb) x (.val (.int .i64 L.length)) n pre.length (by simp only [Dec.cons]; omega) f [] (deepCases c 0) s 0 rfl rfl hF (by omega) (by omega) (by omega) (by omega)
   simp only [go_sem, Dec.cons] at this
   rw [show ((0 : Nat) : Int) = 0 from rfl] at this
   rw [this]
   exact Q0D L x hx hl suf (pre ++ [_]) _ s _ (by simpa using h) (by simp) (fun u hu => H u (List.mem_cons_of_mem _ hu)) (by omega) (by omega) (by omega)
theorem Q8u : ∀ m : Nat, (∀ e : Exp, e.size ≤ m → e.size < 2^40 → deepExpOK e) ∧ (∀ l : List Case, Case.sizes l ≤ m → Case.sizes l < 2^40 → deepCasesOK l) ∧ (∀ l : List Dec, Dec.sizes l ≤ m → Dec.sizes l < 2^40 → deepDecsOK l) := by
 intro m
 induction m with
 | zero =>
   refine ⟨fun e h _ => ?_, fun l h _ v s hv => ?_, fun l h _ v s hv => ?_⟩
   ·obtain ⟨k, a, nm, n, l, lb, c, cb, d, db⟩ := e
    simp only [Exp.size] at h; omega
   ·cases l with
    | cons c l => obtain ⟨p, e⟩ := c; simp only [Case.sizes, Case.size] at h; omega
    | nil =>
      rw [Q2h]; simp only [go_sem, hv]
      exact Q0t [] _ hv (by decide) [] [] 0 s 0 rfl rfl (by simp) (by decide) (by decide) (by simp only [Case.sizes]; decide)
   ·cases l with
    | cons c l => obtain ⟨k, a, nm, p, l, nb, c, cb, f, fb⟩ := c; simp only [Dec.sizes, Dec.size] at h; omega
    | nil =>
      rw [Q2P]; simp only [go_sem, hv]
      exact Q0D [] _ hv (by decide) [] [] 0 s 0 rfl rfl (by simp) (by decide) (by decide) (by simp only [Dec.sizes]; decide)
 | succ m ih =>
   obtain ⟨ihE, ihC, ihD⟩ := ih
   have hC : ∀ l : List Case, Case.sizes l ≤ m + 1 → Case.sizes l < 2^40 → deepCasesOK l := fun l h h' v s hv => by
    have := Case.len_sizes l
    rw [Q2h]; simp only [go_sem, hv]
    exact Q0t l _ hv (by omega) l [] 0 s 0 rfl rfl (fun t ht => ihE t.exp (by have := Case.mem_sizes ht; obtain ⟨p, e⟩ := t; simp only [Case.size, Case.exp] at *; omega) (by have := Case.mem_sizes ht; obtain ⟨p, e⟩ := t; simp only [Case.size, Case.exp] at *; omega)) (by decide) (by decide) h'
   refine ⟨fun e h h' s => ?_, hC, fun l h h' v s hv => ?_⟩
   ·obtain ⟨k, a, nm, n, l, lb, c, cb, d, db⟩ := e
    simp only [Exp.size] at h h'
    have hl := Exp.len_sizes l
    have g1 := Q1T d 0
    have g2 := Q01 c 0
    have g3 := Zc (deepDecs d 0) (deepCases c 0) (2^40 - 1) (by omega) (by omega)
    have g4 := Zb (deepDecs d 0) (deepCases c 0)
    have hD := fun s => ihD d (by omega) (by omega) (encS db (d.map Dec.enc)) s (by simp only [go_sem])
    have hCc := fun s => ihC c (by omega) (by omega) (encS cb (c.map Case.enc)) s (by simp only [go_sem])
    rw [Q74]; simp only [go_sem, Nat.reduceAdd, Nat.reduceLeDiff, Exp.enc, hD, hCc]
    exact Q2i l _ (by simp only [go_sem]) (by omega) l [] _ s 0 rfl rfl (fun t ht => ihE t (by have := Exp.mem_sizes ht; omega) (by have := Exp.mem_sizes ht; omega)) (by omega) (by omega) (by omega)
   ·have := Dec.len_sizes l
    rw [Q2P]; simp only [go_sem, hv]
    refine Q0D l _ hv (by omega) l [] 0 s 0 rfl rfl (fun t ht => ?_) (by decide) (by decide) h'
    have h1 := Dec.mem_sizes ht
    obtain ⟨k, a, nm, p, l, nb, c, cb, f, fb⟩ := t
    simp only [Dec.size] at h1
    refine ⟨ihC c (by omega) (by omega), fun g hg => ?_⟩
    have h2 := Fun.mem_sizes hg
    obtain ⟨nm, a, c'⟩ := g
    simp only [Dec.funs, Fun.size] at h2
    exact ihC [c'] (by simp only [Case.sizes]; omega) (by simp only [Case.sizes]; omega)
theorem Q54 (l : List Dec) (nl : Bool) (s : St) (h : Dec.sizes l < 2^40) : cw (.f QI) [encS nl (l.map Dec.enc)] s = some (.ret (.val (.int .i64 (deepDecs l 0))), s) := (Q8u (Dec.sizes l)).2.2 l (Nat.le_refl _) h _ s (by simp only [go_sem])
end Go.Proofs.Ytoahliipbclneaa
namespace Go.Proofs.Ytoahliipbclneaa
open Go Go.Am
set_option linter.unusedVariables false
set_option maxRecDepth 4000
section
variable {σ : Type} (step : TNode → σ → σ × Bool)
def walk : List TNode → σ → σ × Bool
 | [], st => (st, true)
 | n :: l, st => bif (step n st).2 then walk l (step n st).1 else step n st
theorem Q0i (a b : List TNode) (st : σ) : walk step (a ++ b) st = bif (walk step a st).2 then walk step b (walk step a st).1 else walk step a st := by
 induction a generalizing st with
 | nil => rfl
 | cons n a ih =>
   simp only [List.cons_append, walk]
   cases h : (step n st).2
   ·simp only [cond_false, h]
   ·simp only [cond_true]; exact ih _
variable (R : σ × Bool → St → Prop) (P : TNode → Prop) (loc : Nat)
def YOK : Prop := ∀ nd r st s, P nd → R (st, true) s → ∃ s', cw (.y loc) [nd.thing r] s = some (.ret (.val (.bool (step nd st).2)), s') ∧ R (step nd st) s'
def WOK (f : Nat) (args : List AV) (l : List TNode) : Prop := (∀ n ∈ l, P n) → ∀ st s, R (st, true) s → ∃ s', cw (.f f) args s = some (.ret (.val (.bool (walk step l st).2)), s') ∧ R (walk step l st) s'
abbrev wk : AV := .agg [.yld loc]
variable {step} {R} {P} {loc}
theorem QX {st : σ × Bool} {s' : St} (hb : st.2 = true) (h : R st s') : R (st.1, true) s' := by rw [← hb]; exact h
theorem Q2m (hY : YOK step R P loc) (a : Int) (t : Ty) (r : List AV) (hl : t.args.length < 2^40) : ∀ (suf pre : List Ty) (st : σ) (s : St) (i : Nat), pre ++ suf = t.args → i = pre.length → (∀ u ∈ suf, ∀ r, WOK step R P QL [wk loc, .cp (u.cells ++ r), .int .i64 a] (nodesTy a u)) → (∀ n ∈ nodesTys a suf, P n) → R (st, true) s →
  ∃ s', QU (.val (.cp (t.cells ++ r))) (.val (.int .i64 a)) [.val (.yld loc)] (.val (.int .i64 t.args.length)) (.val (.int .i64 i)) s = some (.ret (.val (.bool (walk step (nodesTys a suf) st).2)), s') ∧ R (walk step (nodesTys a suf) st) s'
 | [], pre, st, s, i, h, hi, H, hP, hR => by
   subst hi
   rw [Q0N]; simp only [go_sem, Nat.reduceAdd, Nat.reduceLeDiff, Qd (by simpa using h), nodesTys, walk]
   exact ⟨s, rfl, hR⟩
 | u :: suf, pre, st, s, i, h, hi, H, hP, hR => by
   subst hi
   obtain ⟨f1, f2, f3⟩ := Q8 (x := .val (encS t.nl (t.args.map Ty.enc))) (Qk _ _) h (by omega) (Ty.cells_len u) (by decide)
   simp only [nodesTys] at hP ⊢
   obtain ⟨s1, e1, g1⟩ := H u (List.mem_cons_self) [] (fun n hn => hP n (List.mem_append_left _ hn)) st s hR
   rw [Q0N]
   rw [Q0i]
   cases hb : (walk step (nodesTy a u) st).2 with
   | false =>
     rw [hb] at e1
     simp only [go_sem, Nat.reduceAdd, Nat.reduceLeDiff, Ty.cells_eq, f1] at e1 f2 ⊢
     simp only [go_sem, Nat.reduceAdd, Nat.reduceLeDiff, f2, e1, hb]
     exact ⟨s1, rfl, g1⟩
   | true =>
     rw [hb] at e1
     obtain ⟨s2, e2, g2⟩ := Q2m hY a t r hl suf (pre ++ [u]) (walk step (nodesTy a u) st).1 s1 (pre.length + 1) (by simpa using h) (by simp) (fun w hw => H w (List.mem_cons_of_mem _ hw)) (fun n hn => hP n (List.mem_append_right _ hn)) (QX hb g1)
     refine ⟨s2, ?_, g2⟩
     rw [cond_true, ← e2]
     simp only [go_sem, Nat.reduceAdd, Nat.reduceLeDiff, Ty.cells_eq, f1] at e1 f2 ⊢
     simp only [go_sem, Nat.reduceAdd, Nat.reduceLeDiff, f2, e1, f3]
theorem Q2n (hY : YOK step R P loc) : ∀ (m : Nat) (a : Int) (t : Ty) (r : List AV), t.size ≤ m → t.size < 2^40 → WOK step R P QL [wk loc, .cp (t.cells ++ r), .int .i64 a] (nodesTy a t)
 | 0, a, .mk _ _ _ _ _, _, h, _ => by simp only [Ty.size] at h; omega
 | m + 1, a, .mk k n nm l nl, r, h, h' => fun hP st s hR => by
   simp only [Ty.size] at h h'
   have hl := Ty.len_sizes l
   simp only [nodesTy] at hP ⊢
   obtain ⟨s1, e1, g1⟩ := hY (.ty (.mk k n nm l nl) a) r st s (hP _ (List.mem_cons_self)) hR
   rw [Q42]
   simp only [walk]
   cases hb : (step (.ty (.mk k n nm l nl) a) st).2 with
   | false =>
     rw [hb] at e1
     simp only [go_sem, Nat.reduceAdd, Nat.reduceLeDiff, TNode.thing] at e1 ⊢
     simp only [go_sem, e1, hb]
     exact ⟨s1, rfl, g1⟩
   | true =>
     rw [hb] at e1
     obtain ⟨s2, e2, g2⟩ := Q2m hY a (.mk k n nm l nl) r (by simp only [Ty.args]; omega) l [] (step (.ty (.mk k n nm l nl) a) st).1 s1 0 rfl rfl (fun u hu r => by have := Ty.mem_sizes hu; exact Q2n hY m a u r (by omega) (by omega)) (fun n hn => hP n (List.mem_cons_of_mem _ hn)) (QX hb g1)
     refine ⟨s2, ?_, g2⟩
     rw [cond_true, ← e2]
     simp only [go_sem, Nat.reduceAdd, Nat.reduceLeDiff, TNode.thing] at e1 ⊢
     simp only [go_sem, e1, Ty.args]
     rfl
theorem Q2U (hY : YOK step R P loc) (t : Pat) (r : List AV) (hl : t.kids.length < 2^40) : ∀ (suf pre : List Pat) (st : σ) (s : St) (i : Nat), pre ++ suf = t.kids → i = pre.length → (∀ u ∈ suf, ∀ r, WOK step R P QQ [wk loc, .cp (u.cells ++ r)] (nodesPat u)) → (∀ n ∈ nodesPats suf, P n) → R (st, true) s →
  ∃ s', Z2 (.val (.cp (t.cells ++ r))) [.val (.yld loc)] (.val (.int .i64 t.kids.length)) (.val (.int .i64 i)) s = some (.ret (.val (.bool (walk step (nodesPats suf) st).2)), s') ∧ R (walk step (nodesPats suf) st) s'
 | [], pre, st, s, i, h, hi, H, hP, hR => by
   subst hi
   rw [Q13]; simp only [go_sem, Nat.reduceAdd, Nat.reduceLeDiff, Qd (by simpa using h), nodesPats, walk]
   exact ⟨s, rfl, hR⟩
 | u :: suf, pre, st, s, i, h, hi, H, hP, hR => by
   subst hi
   obtain ⟨f1, f2, f3⟩ := Q8 (x := .val (encS t.kb (t.kids.map Pat.enc))) (Qk _ _) h (by omega) (Pat.cells_len u) (by decide)
   simp only [nodesPats] at hP ⊢
   obtain ⟨s1, e1, g1⟩ := H u (List.mem_cons_self) [] (fun n hn => hP n (List.mem_append_left _ hn)) st s hR
   rw [Q13]
   rw [Q0i]
   cases hb : (walk step (nodesPat u) st).2 with
   | false =>
     rw [hb] at e1
     simp only [go_sem, Nat.reduceAdd, Nat.reduceLeDiff, Pat.cells_eq, f1] at e1 f2 ⊢
     simp only [go_sem, Nat.reduceAdd, Nat.reduceLeDiff, f2, e1, hb]
     exact ⟨s1, rfl, g1⟩
   | true =>
     rw [hb] at e1
     obtain ⟨s2, e2, g2⟩ := Q2U hY t r hl suf (pre ++ [u]) (walk step (nodesPat u) st).1 s1 (pre.length + 1) (by simpa using h) (by simp) (fun w hw => H w (List.mem_cons_of_mem _ hw)) (fun n hn => hP n (List.mem_append_right _ hn)) (QX hb g1)
     refine ⟨s2, ?_, g2⟩
     rw [cond_true, ← e2]
     simp only [go_sem, Nat.reduceAdd, Nat.reduceLeDiff, Pat.cells_eq, f1] at e1 f2 ⊢
     simp only [go_sem, Nat.reduceAdd, Nat.reduceLeDiff, f2, e1, f3]
theorem Q2V (hY : YOK step R P loc) : ∀ (m : Nat) (t : Pat) (r : List AV), t.size ≤ m → t.size < 2^40 → WOK step R P QQ [wk loc, .cp (t.cells ++ r)] (nodesPat t)
 | 0, .mk _ _ _ _ _ _, _, h, _ => by simp only [Pat.size] at h; omega
 | m + 1, .mk k a nm n l nl, r, h, h' => fun hP st s hR => by
   simp only [Pat.size] at h h'
   have hl := Pat.len_sizes l
   simp only [nodesPat] at hP ⊢
   obtain ⟨s1, e1, g1⟩ := hY (.pat (.mk k a nm n l nl)) r st s (hP _ (List.mem_cons_self)) hR
   rw [Q4s]
   simp only [walk]
   cases hb : (step (.pat (.mk k a nm n l nl)) st).2 with
   | false =>
     rw [hb] at e1
     simp only [go_sem, Nat.reduceAdd, Nat.reduceLeDiff, TNode.thing, Pat.at_] at e1 ⊢
     simp only [go_sem, e1, hb]
     exact ⟨s1, rfl, g1⟩
   | true =>
     rw [hb] at e1
     obtain ⟨s2, e2, g2⟩ := Q2U hY (.mk k a nm n l nl) r (by simp only [Pat.kids]; omega) l [] (step (.pat (.mk k a nm n l nl)) st).1 s1 0 rfl rfl (fun u hu r => by have := Pat.mem_sizes hu; exact Q2V hY m u r (by omega) (by omega)) (fun n hn => hP n (List.mem_cons_of_mem _ hn)) (QX hb g1)
     refine ⟨s2, ?_, g2⟩
     rw [cond_true, ← e2]
     simp only [go_sem, Nat.reduceAdd, Nat.reduceLeDiff, TNode.thing, Pat.at_] at e1 ⊢
     simp only [go_sem, e1, Pat.kids]
     rfl
def WExp (step : TNode → σ → σ × Bool) (R : σ × Bool → St → Prop) (P : TNode → Prop) (loc : Nat) (t : Exp) : Prop := ∀ r, WOK step R P Z6 [wk loc, .cp (t.cells ++ r)] (nodesExp t)
def WCases (step : TNode → σ → σ × Bool) (R : σ × Bool → St → Prop) (P : TNode → Prop) (loc : Nat) (l : List Case) : Prop := ∀ v, (Slot.val v).list? = some (l.map Case.enc) → WOK step R P QK [wk loc, v] (nodesCases l)
def WDecs (step : TNode → σ → σ × Bool) (R : σ × Bool → St → Prop) (P : TNode → Prop) (loc : Nat) (l : List Dec) : Prop := ∀ v inn, (Slot.val v).list? = some (l.map Dec.enc) → WOK step R P QC [wk loc, v, .bool inn] (nodesDecs inn l)
theorem Q0Q (hY : YOK step R P loc) (L : List Case) (x : Slot) (hx : x.list? = some (L.map Case.enc)) (hl : L.length < 2^40) : ∀ (suf pre : List Case) (st : σ) (s : St) (i : Nat), pre ++ suf = L → i = pre.length → (∀ u ∈ suf, WExp step R P loc u.exp ∧ u.size < 2^40) → (∀ n ∈ nodesCases suf, P n) → R (st, true) s →
  ∃ s', QT x [.val (.yld loc)] (.val (.int .i64 L.length)) (.val (.int .i64 i)) s = some (.ret (.val (.bool (walk step (nodesCases suf) st).2)), s') ∧ R (walk step (nodesCases suf) st) s'
 | [], pre, st, s, i, h, hi, H, hP, hR => by
   subst hi
   rw [Q0M]; simp only [go_sem, Nat.reduceAdd, Nat.reduceLeDiff, Qd (by simpa using h), nodesCases, walk]
   exact ⟨s, rfl, hR⟩
 | .mk p e :: suf, pre, st, s, i, h, hi, H, hP, hR => by
   subst hi
   obtain ⟨f1, f2, f3⟩ := Q8 hx h (by omega) (Case.cells_len (.mk p e)) (by decide)
   simp only [nodesCases, nodesCase] at hP ⊢
   obtain ⟨hE, hsz⟩ := H (.mk p e) (List.mem_cons_self)
   simp only [Case.exp, Case.size] at hE hsz
   obtain ⟨s1, e1, g1⟩ := Q2V hY _ p e.cells (Nat.le_refl _) (by omega) (fun n hn => hP n (List.mem_append_left _ (List.mem_append_left _ hn))) st s hR
   rw [Q0M]
   rw [Q0i, Q0i]
   cases hb : (walk step (nodesPat p) st).2 with
   | false =>
     rw [hb] at e1
     simp only [go_sem, Nat.reduceAdd, Nat.reduceLeDiff, f1, f2, e1, hb]
     exact ⟨s1, rfl, g1⟩
   | true =>
     rw [hb] at e1
     rw [cond_true]
     obtain ⟨s2, e2, g2⟩ := hE [] (fun n hn => hP n (List.mem_append_left _ (List.mem_append_right _ hn))) (walk step (nodesPat p) st).1 s1 (QX hb g1)
     cases hb2 : (walk step (nodesExp e) (walk step (nodesPat p) st).1).2 with
     | false =>
       rw [hb2] at e2
       simp only [go_sem] at e2
       simp only [go_sem, Nat.reduceAdd, Nat.reduceLeDiff, Nat.reduceSub, f1, f2, e1, e2, hb2]
       exact ⟨s2, rfl, g2⟩
     | true =>
       rw [hb2] at e2
       obtain ⟨s3, e3, g3⟩ := Q0Q hY L x hx hl suf (pre ++ [.mk p e]) (walk step (nodesExp e) (walk step (nodesPat p) st).1).1 s2 (pre.length + 1) (by simpa using h) (by simp) (fun w hw => H w (List.mem_cons_of_mem _ hw)) (fun n hn => hP n (List.mem_append_right _ hn)) (QX hb2 g2)
       refine ⟨s3, ?_, g3⟩
       rw [cond_true, ← e3]
       simp only [go_sem] at e2
       simp only [go_sem, Nat.reduceAdd, Nat.reduceLeDiff, Nat.reduceSub, f1, f2, e1, e2, f3]
theorem Q2T (hY : YOK step R P loc) (t : Exp) (r : List AV) (hl : t.kids.length < 2^40) (HC : WCases step R P loc t.cases) : ∀ (suf pre : List Exp) (st : σ) (s : St) (i : Nat), pre ++ suf = t.kids → i = pre.length → (∀ u ∈ suf, WExp step R P loc u) → (∀ n ∈ nodesExps suf ++ nodesCases t.cases, P n) → R (st, true) s →
  ∃ s', Z1 (.val (.cp (t.cells ++ r))) [.val (.yld loc)] (.val (.int .i64 t.kids.length)) (.val (.int .i64 i)) s = some (.ret (.val (.bool (walk step (nodesExps suf ++ nodesCases t.cases) st).2)), s') ∧ R (walk step (nodesExps suf ++ nodesCases t.cases) st) s'
 | [], pre, st, s, i, h, hi, H, hP, hR => by
   subst hi
   simp only [nodesExps, List.nil_append] at hP ⊢
   obtain ⟨s1, e1, g1⟩ := HC (encS t.cb (t.cases.map Case.enc)) (by simp only [go_sem]) hP st s hR
   rw [Q12]; simp only [go_sem, Nat.reduceAdd, Nat.reduceLeDiff, Exp.cells_eq, Qd (by simpa using h), e1]
   exact ⟨s1, rfl, g1⟩
 | u :: suf, pre, st, s, i, h, hi, H, hP, hR => by
   subst hi
   obtain ⟨f1, f2, f3⟩ := Q8 (x := .val (encS t.kb (t.kids.map Exp.enc))) (Qk _ _) h (by omega) (Exp.cells_len u) (by decide)
   simp only [nodesExps, List.append_assoc] at hP ⊢
   obtain ⟨s1, e1, g1⟩ := H u (List.mem_cons_self) [] (fun n hn => hP n (List.mem_append_left _ hn)) st s hR
   rw [Q12]
   rw [Q0i]
   cases hb : (walk step (nodesExp u) st).2 with
   | false =>
     rw [hb] at e1
     simp only [go_sem, Nat.reduceAdd, Nat.reduceLeDiff, Exp.cells_eq, f1] at e1 f2 ⊢
     simp only [go_sem, Nat.reduceAdd, Nat.reduceLeDiff, f2, e1, hb]
     exact ⟨s1, rfl, g1⟩
   | true =>
     rw [hb] at e1
     obtain ⟨s2, e2, g2⟩ := Q2T hY t r hl HC suf (pre ++ [u]) (walk step (nodesExp u) st).1 s1 (pre.length + 1) (by simpa using h) (by simp) (fun w hw => H w (List.mem_cons_of_mem _ hw)) (fun n hn => hP n (List.mem_append_right _ hn)) (QX hb g1)
     refine ⟨s2, ?_, g2⟩
     rw [cond_true, ← e2]
     simp only [go_sem, Nat.reduceAdd, Nat.reduceLeDiff, Exp.cells_eq, f1] at e1 f2 ⊢
     simp only [go_sem, Nat.reduceAdd, Nat.reduceLeDiff, f2, e1, f3]
theorem Q8A (hY : YOK step R P loc) (t : Exp) (hl : t.kids.length < 2^40) (HD : WDecs step R P loc t.decs) (HC : WCases step R P loc t.cases) (HE : ∀ u ∈ t.kids, WExp step R P loc u) : WExp step R P loc t := fun r hP st s hR => by
 obtain ⟨k, a, nm, n, l, lb, c, cb, d, db⟩ := t
 simp only [Exp.kids, Exp.cases, Exp.decs] at hl HD HC HE
 simp only [nodesExp] at hP ⊢
 obtain ⟨s1, e1, g1⟩ := hY (.exp (.mk k a nm n l lb c cb d db)) r st s (hP _ (List.mem_cons_self)) hR
 rw [Q4r]
 simp only [walk]
 cases hb : (step (.exp (.mk k a nm n l lb c cb d db)) st).2 with
 | false =>
   rw [hb] at e1
   simp only [go_sem, Nat.reduceAdd, Nat.reduceLeDiff, TNode.thing, Exp.at_] at e1 ⊢
   simp only [go_sem, e1, hb]
   exact ⟨s1, rfl, g1⟩
 | true =>
   rw [hb] at e1
   rw [cond_true, Q0i]
   obtain ⟨s2, e2, g2⟩ := HD (encS db (d.map Dec.enc)) true (by simp only [go_sem]) (fun n hn => hP n (List.mem_cons_of_mem _ (List.mem_append_left _ hn))) (step (.exp (.mk k a nm n l lb c cb d db)) st).1 s1 (QX hb g1)
   cases hb2 : (walk step (nodesDecs true d) (step (.exp (.mk k a nm n l lb c cb d db)) st).1).2 with
   | false =>
     rw [hb2] at e2
     simp only [go_sem, Nat.reduceAdd, Nat.reduceLeDiff, TNode.thing, Exp.at_] at e1 ⊢
     simp only [go_sem, e1, e2, hb2]
     exact ⟨s2, rfl, g2⟩
   | true =>
     rw [hb2] at e2
     obtain ⟨s3, e3, g3⟩ := Q2T hY (.mk k a nm n l lb c cb d db) r (by simp only [Exp.kids]; omega) HC l [] (walk step (nodesDecs true d) (step (.exp (.mk k a nm n l lb c cb d db)) st).1).1 s2 0 rfl rfl HE (fun n hn => hP n (List.mem_cons_of_mem _ (List.mem_append_right _ hn))) (QX hb2 g2)
     refine ⟨s3, ?_, g3⟩
     simp only [Exp.cases] at e3
     rw [cond_true, ← e3]
     simp only [go_sem, Nat.reduceAdd, Nat.reduceLeDiff, TNode.thing, Exp.at_] at e1 ⊢
     simp only [go_sem, e1, e2, Exp.kids]
     rfl
theorem Q0u (hY : YOK step R P loc) (d : Dec) (x1 x2 x14 : Slot) (j : Nat) (hj : j < 2^40) (hl : d.cons.length < 2^40) (hsz : Con.sizes d.cons < 2^40) (rest : List TNode)
  (K : ∀ st s, R (st, true) s → (∀ n ∈ rest, P n) → ∃ s', QB x1 x2 [.val (.yld loc)] x14 (.val (.int .i64 (j + 1 : Nat))) s = some (.ret (.val (.bool (walk step rest st).2)), s') ∧ R (walk step rest st) s') :
  ∀ (suf pre : List Con) (st : σ) (s : St) (i : Nat), pre ++ suf = d.cons → i = pre.length → Con.sizes suf < 2^40 → (∀ n ∈ nodesCons suf ++ rest, P n) → R (st, true) s →
  ∃ s', Z0 x1 x2 [.val (.yld loc)] (.val (.cp d.cells)) x14 (.val (.int .i64 j)) (.val (.int .i64 d.cons.length)) (.val (.int .i64 i)) s = some (.ret (.val (.bool (walk step (nodesCons suf ++ rest) st).2)), s') ∧ R (walk step (nodesCons suf ++ rest) st) s'
 | [], pre, st, s, i, h, hi, hz, hP, hR => by
   subst hi
   simp only [nodesCons, List.nil_append] at hP ⊢
   obtain ⟨s1, e1, g1⟩ := K st s hR hP
   refine ⟨s1, ?_, g1⟩
   rw [Q11, ← e1]; simp only [go_sem, Nat.reduceAdd, Nat.reduceLeDiff, Qd (by simpa using h)]
   rw [wrap64 (by omega) (by omega)]; rfl
 | .mk nm a hs arg :: suf, pre, st, s, i, h, hi, hz, hP, hR => by
   subst hi
   obtain ⟨f1, f2, f3⟩ := Q8 (x := .val (encS d.nb (d.cons.map Con.enc))) (Qk _ _) h (by omega) (Con.cells_len ⟨nm, a, hs, arg⟩) (by decide)
   simp only [Con.sizes, Con.size] at hz
   simp only [nodesCons, nodesCon, List.append_assoc, List.cons_append] at hP ⊢
   obtain ⟨s1, e1, g1⟩ := hY (.con ⟨nm, a, hs, arg⟩) [] st s (hP _ (List.mem_cons_self)) hR
   rw [Q11]
   simp only [walk]
   cases hb : (step (.con ⟨nm, a, hs, arg⟩) st).2 with
   | false =>
     rw [hb] at e1
     simp only [go_sem, Nat.reduceAdd, Nat.reduceLeDiff, Dec.cells_eq, Con.cells, TNode.thing, f1] at e1 f2 ⊢
     simp only [go_sem, Nat.reduceAdd, Nat.reduceLeDiff, f2, e1, hb]
     exact ⟨s1, rfl, g1⟩
   | true =>
     rw [hb] at e1
     rw [cond_true]
     cases hs with
     | false =>
       obtain ⟨s2, e2, g2⟩ := Q0u hY d x1 x2 x14 j hj hl hsz rest K suf (pre ++ [⟨nm, a, false, arg⟩]) (step (.con ⟨nm, a, false, arg⟩) st).1 s1 (pre.length + 1) (by simpa using h) (by simp) (by omega) (fun n hn => hP n (List.mem_cons_of_mem _ hn)) (QX hb g1)
       refine ⟨s2, ?_, g2⟩
       rw [cond_false, List.nil_append, ← e2]
       simp only [go_sem, Nat.reduceAdd, Nat.reduceLeDiff, Dec.cells_eq, Con.cells, TNode.thing, f1] at e1 f2 ⊢
       simp only [go_sem, Nat.reduceAdd, Nat.reduceLeDiff, f2, e1, f3]
     | true =>
       rw [cond_true, Q0i]
       rw [cond_true] at hP
       obtain ⟨s2, e2, g2⟩ := Q2n hY _ a arg [] (Nat.le_refl _) (by omega) (fun n hn => hP n (List.mem_cons_of_mem _ (List.mem_append_left _ hn))) (step (.con ⟨nm, a, true, arg⟩) st).1 s1 (QX hb g1)
       cases hb2 : (walk step (nodesTy a arg) (step (.con ⟨nm, a, true, arg⟩) st).1).2 with
       | false =>
         rw [hb2] at e2
         simp only [go_sem] at e2
         simp only [go_sem, Nat.reduceAdd, Nat.reduceLeDiff, Dec.cells_eq, Con.cells, TNode.thing, f1] at e1 f2 ⊢
         simp only [go_sem, Nat.reduceAdd, Nat.reduceLeDiff, f2, e1, e2, hb2]
         exact ⟨s2, rfl, g2⟩
       | true =>
         rw [hb2] at e2
         obtain ⟨s3, e3, g3⟩ := Q0u hY d x1 x2 x14 j hj hl hsz rest K suf (pre ++ [⟨nm, a, true, arg⟩]) (walk step (nodesTy a arg) (step (.con ⟨nm, a, true, arg⟩) st).1).1 s2 (pre.length + 1) (by simpa using h) (by simp) (by omega) (fun n hn => hP n (List.mem_cons_of_mem _ (List.mem_append_right _ hn))) (QX hb2 g2)
         refine ⟨s3, ?_, g3⟩
         rw [cond_true, ← e3]
         simp only [go_sem] at e2
         simp only [go_sem, Nat.reduceAdd, Nat.reduceLeDiff, Dec.cells_eq, Con.cells, TNode.thing, f1] at e1 f2 ⊢
         simp only [go_sem, Nat.reduceAdd, Nat.reduceLeDiff, f2, e1, e2, f3]
theorem Q1H (hY : YOK step R P loc) (d : Dec) (x1 x2 x14 : Slot) (j : Nat) (hj : j < 2^40) (hl0 : d.funs.length < 2^40) (hl : d.cons.length < 2^40) (hsz : Con.sizes d.cons < 2^40) (rest : List TNode)
  (K : ∀ st s, R (st, true) s → (∀ n ∈ rest, P n) → ∃ s', QB x1 x2 [.val (.yld loc)] x14 (.val (.int .i64 (j + 1 : Nat))) s = some (.ret (.val (.bool (walk step rest st).2)), s') ∧ R (walk step rest st) s') :
  ∀ (suf pre : List Fun) (st : σ) (s : St) (i : Nat), pre ++ suf = d.funs → i = pre.length → (∀ f ∈ suf, WCases step R P loc [f.case]) → (∀ n ∈ nodesFuns suf ++ (nodesCons d.cons ++ rest), P n) → R (st, true) s →
  ∃ s', QZ x1 x2 [.val (.yld loc)] (.val (.cp d.cells)) x14 (.val (.int .i64 j)) (.val (.int .i64 d.funs.length)) (.val (.int .i64 i)) s = some (.ret (.val (.bool (walk step (nodesFuns suf ++ (nodesCons d.cons ++ rest)) st).2)), s') ∧ R (walk step (nodesFuns suf ++ (nodesCons d.cons ++ rest)) st) s'
 | [], pre, st, s, i, h, hi, H, hP, hR => by
   subst hi
   simp only [nodesFuns, List.nil_append] at hP ⊢
   obtain ⟨s1, e1, g1⟩ := Q0u hY d x1 x2 x14 j hj hl hsz rest K d.cons [] st s 0 rfl rfl hsz hP hR
   refine ⟨s1, ?_, g1⟩
   rw [Q10, ← e1]; simp only [go_sem, Nat.reduceAdd, Nat.reduceLeDiff, Dec.cells_eq, Qd (by simpa using h)]
   rfl
 | .mk nm a c :: suf, pre, st, s, i, h, hi, H, hP, hR => by
   subst hi
   obtain ⟨f1, f2, f3⟩ := Q8 (x := .val (encS d.fb (d.funs.map Fun.enc))) (Qk _ _) h (by omega) (Fun.cells_len (.mk nm a c)) (by decide)
   simp only [nodesFuns, nodesFun, List.append_assoc, List.cons_append] at hP ⊢
   obtain ⟨s1, e1, g1⟩ := hY (.fn (.mk nm a c)) [] st s (hP _ (List.mem_cons_self)) hR
   rw [Q10]
   simp only [walk]
   cases hb : (step (.fn (.mk nm a c)) st).2 with
   | false =>
     rw [hb] at e1
     simp only [go_sem, Nat.reduceAdd, Nat.reduceLeDiff, Dec.cells_eq, TNode.thing, Fun.at_, f1] at e1 f2 ⊢
     simp only [go_sem, Nat.reduceAdd, Nat.reduceLeDiff, f2, e1, hb]
     exact ⟨s1, rfl, g1⟩
   | true =>
     rw [hb] at e1
     rw [cond_true, Q0i]
     obtain ⟨s2, e2, g2⟩ := H (.mk nm a c) (List.mem_cons_self) (.sl [c.enc]) (by simp only [go_sem, Fun.case]) (fun n hn => hP n (List.mem_cons_of_mem _ (List.mem_append_left _ (by simpa [nodesCases, Fun.case] using hn)))) (step (.fn (.mk nm a c)) st).1 s1 (QX hb g1)
     simp only [Fun.case, nodesCases, List.append_nil] at e2 g2
     cases hb2 : (walk step (nodesCase c) (step (.fn (.mk nm a c)) st).1).2 with
     | false =>
       rw [hb2] at e2
       simp only [go_sem, Nat.reduceAdd, Nat.reduceLeDiff, Dec.cells_eq, TNode.thing, Fun.at_, f1] at e1 f2 ⊢
       simp only [go_sem, Nat.reduceAdd, Nat.reduceLeDiff, f2, e1, e2, hb2]
       exact ⟨s2, rfl, g2⟩
     | true =>
       rw [hb2] at e2
       obtain ⟨s3, e3, g3⟩ := Q1H hY d x1 x2 x14 j hj hl0 hl hsz rest K suf (pre ++ [.mk nm a c]) (walk step (nodesCase c) (step (.fn (.mk nm a c)) st).1).1 s2 (pre.length + 1) (by simpa using h) (by simp) (fun w hw => H w (List.mem_cons_of_mem _ hw)) (fun n hn => hP n (List.mem_cons_of_mem _ (List.mem_append_right _ hn))) (QX hb2 g2)
       refine ⟨s3, ?_, g3⟩
       rw [cond_true, ← e3]
       simp only [go_sem, Nat.reduceAdd, Nat.reduceLeDiff, Dec.cells_eq, TNode.thing, Fun.at_, f1] at e1 f2 ⊢
       simp only [go_sem, Nat.reduceAdd, Nat.reduceLeDiff, f2, e1, e2, f3]
theorem Q19 (hY : YOK step R P loc) (L : List Dec) (x : Slot) (hx : x.list? = some (L.map Dec.enc)) (inn : Bool) (hl : L.length < 2^40) : ∀ (suf pre : List Dec) (st : σ) (s : St) (i : Nat), pre ++ suf = L → i = pre.length → (∀ d ∈ suf, d.size < 2^40 ∧ WCases step R P loc d.case ∧ ∀ f ∈ d.funs, WCases step R P loc [f.case]) → (∀ n ∈ nodesDecs inn suf, P n) → R (st, true) s →
  ∃ s', QB x (.val (.bool inn)) [.val (.yld loc)] (.val (.int .i64 L.length)) (.val (.int .i64 i)) s = some (.ret (.val (.bool (walk step (nodesDecs inn suf) st).2)), s') ∧ R (walk step (nodesDecs inn suf) st) s'
 | [], pre, st, s, i, h, hi, H, hP, hR => by
   subst hi
   rw [Q0Z]; simp only [go_sem, Nat.reduceAdd, Nat.reduceLeDiff, Qd (by simpa using h), nodesDecs, walk]
   exact ⟨s, rfl, hR⟩
 | .mk k a nm p l nb c cb f fb :: suf, pre, st, s, i, h, hi, H, hP, hR => by
   subst hi
   obtain ⟨f1, f2, f3⟩ := Q8 hx h (by omega) (Dec.cells_len (.mk k a nm p l nb c cb f fb)) (by decide)
   obtain ⟨hsz, HC, HF⟩ := H _ (List.mem_cons_self)
   simp only [Dec.case, Dec.funs, Dec.size] at hsz HC HF
   have q1 := Fun.len_sizes f
   have q2 := Con.len_sizes l
   have hlen : pre.length < L.length := by rw [← h]; simp
   simp only [nodesDecs, nodesDec, List.append_assoc, List.cons_append] at hP ⊢
   obtain ⟨s1, e1, g1⟩ := hY (.dec inn (.mk k a nm p l nb c cb f fb)) [] st s (hP _ (List.mem_cons_self)) hR
   rw [Q0Z]
   simp only [walk]
   cases hb : (step (.dec inn (.mk k a nm p l nb c cb f fb)) st).2 with
   | false =>
     rw [hb] at e1
     simp only [go_sem, Nat.reduceAdd, Nat.reduceLeDiff, TNode.thing, Dec.at_, f1] at e1 f2 ⊢
     simp only [go_sem, Nat.reduceAdd, Nat.reduceLeDiff, f2, e1, hb]
     exact ⟨s1, rfl, g1⟩
   | true =>
     rw [hb] at e1
     rw [cond_true, Q0i]
     obtain ⟨s2, e2, g2⟩ := HC (encS cb (c.map Case.enc)) (by simp only [go_sem]) (fun n hn => hP n (List.mem_cons_of_mem _ (List.mem_append_left _ hn))) (step (.dec inn (.mk k a nm p l nb c cb f fb)) st).1 s1 (QX hb g1)
     cases hb2 : (walk step (nodesCases c) (step (.dec inn (.mk k a nm p l nb c cb f fb)) st).1).2 with
     | false =>
       rw [hb2] at e2
       simp only [go_sem, Nat.reduceAdd, Nat.reduceLeDiff, TNode.thing, Dec.at_, f1] at e1 f2 ⊢
       simp only [go_sem, Nat.reduceAdd, Nat.reduceLeDiff, f2, e1, e2, hb2]
       exact ⟨s2, rfl, g2⟩
     | true =>
       rw [hb2] at e2
       obtain ⟨s3, e3, g3⟩ := Q1H hY (.mk k a nm p l nb c cb f fb) x (.val (.bool inn)) (.val (.int .i64 L.length)) pre.length (by omega) (by simp only [Dec.funs]; omega) (by simp only [Dec.cons]; omega) (by simp only [Dec.cons]; omega) (nodesDecs inn suf)
        (fun st s hR hP => Q19 hY L x hx inn hl suf (pre ++ [.mk k a nm p l nb c cb f fb]) st s (pre.length + 1) (by simpa using h) (by simp) (fun w hw => H w (List.mem_cons_of_mem _ hw)) hP hR)
        f [] (walk step (nodesCases c) (step (.dec inn (.mk k a nm p l nb c cb f fb)) st).1).1 s2 0 rfl rfl HF (fun n hn => hP n (List.mem_cons_of_mem _ (List.mem_append_right _ hn))) (QX hb2 g2)
       refine ⟨s3, ?_, g3⟩
       simp only [Dec.cons] at e3
       rw [cond_true, ← e3]
       simp only [go_sem, Nat.reduceAdd, Nat.reduceLeDiff, TNode.thing, Dec.at_, f1] at e1 f2 ⊢
       simp only [go_sem, Nat.reduceAdd, Nat.reduceLeDiff, f2, e1, e2, Dec.funs]
       rfl
theorem QaS (hY : YOK step R P loc) : ∀ m : Nat, (∀ e : Exp, e.size ≤ m → e.size < 2^40 → WExp step R P loc e) ∧ (∀ l : List Case, Case.sizes l ≤ m → Case.sizes l < 2^40 → WCases step R P loc l) ∧ (∀ l : List Dec, Dec.sizes l ≤ m → Dec.sizes l < 2^40 → WDecs step R P loc l) := by
 intro m
 induction m with
 | zero =>
   refine ⟨fun e h _ => ?_, fun l h _ v hv hP st s hR => ?_, fun l h _ v inn hv hP st s hR => ?_⟩
   ·obtain ⟨k, a, nm, n, l, lb, c, cb, d, db⟩ := e
    simp only [Exp.size] at h; omega
   ·cases l with
    | cons c l => obtain ⟨p, e⟩ := c; simp only [Case.sizes, Case.size] at h; omega
    | nil =>
      rw [Q1B]; simp only [go_sem, Nat.reduceAdd, hv]
      exact Q0Q hY [] _ hv (by decide) [] [] st s 0 rfl rfl (by simp) hP hR
   ·cases l with
    | cons c l => obtain ⟨k, a, nm, p, l, nb, c, cb, f, fb⟩ := c; simp only [Dec.sizes, Dec.size] at h; omega
    | nil =>
      rw [Q1G]; simp only [go_sem, Nat.reduceAdd, hv]
      exact Q19 hY [] _ hv inn (by decide) [] [] st s 0 rfl rfl (by simp) hP hR
 | succ m ih =>
   obtain ⟨ihE, ihC, ihD⟩ := ih
   refine ⟨fun e h h' => ?_, fun l h h' v hv hP st s hR => ?_, fun l h h' v inn hv hP st s hR => ?_⟩
   ·refine Q8A hY e ?_ ?_ ?_ ?_ <;> obtain ⟨k, a, nm, n, l, lb, c, cb, d, db⟩ := e <;> simp only [Exp.size] at h h' <;> simp only [Exp.kids, Exp.cases, Exp.decs]
    ·have := Exp.len_sizes l; omega
    ·exact ihD d (by omega) (by omega)
    ·exact ihC c (by omega) (by omega)
    ·exact fun u hu => ihE u (by have := Exp.mem_sizes hu; omega) (by have := Exp.mem_sizes hu; omega)
   ·have := Case.len_sizes l
    rw [Q1B]; simp only [go_sem, Nat.reduceAdd, hv]
    refine Q0Q hY l _ hv (by omega) l [] st s 0 rfl rfl (fun t ht => ?_) hP hR
    have h1 := Case.mem_sizes ht
    obtain ⟨p, e⟩ := t
    simp only [Case.size, Case.exp] at h1 ⊢
    exact ⟨ihE e (by omega) (by omega), by omega⟩
   ·have := Dec.len_sizes l
    rw [Q1G]; simp only [go_sem, Nat.reduceAdd, hv]
    refine Q19 hY l _ hv inn (by omega) l [] st s 0 rfl rfl (fun t ht => ?_) hP hR
    have h1 := Dec.mem_sizes ht
    obtain ⟨k, a, nm, p, l, nb, c, cb, f, fb⟩ := t
    simp only [Dec.size, Dec.case, Dec.funs] at h1 ⊢
    refine ⟨by omega, ihC c (by omega) (by omega), fun g hg => ?_⟩
    have h2 := Fun.mem_sizes hg
    obtain ⟨nm, a, c'⟩ := g
    simp only [Fun.size, Fun.case] at h2 ⊢
    exact ihC [c'] (by simp only [Case.sizes]; omega) (by simp only [Case.sizes]; omega)
end
end Go.Proofs.Ytoahliipbclneaa
namespace Go.Am
open Go
def lay0 (L : List Obj) (cs : List Slot) (g : List Obj) (T : List Nat) : St := ⟨L ++ (.var cs :: g), T⟩
def lay (L : List Obj) (cs : List Slot) (g : List Obj) (o : Obj) (a : List Obj) (T : List Nat) : St := ⟨L ++ (.var cs :: (g ++ (o :: a))), T⟩
def reL (st : LSt) (p : Option AExit) : Obj → Obj
 | .loop _ _ f e ps a b => .loop st p f e ps a b
 | o => o
def isReady : Obj → Bool
 | .loop .ready none _ _ _ _ _ => true
 | _ => false
theorem Q2q {o : Obj} (h : isReady o = true) : ∃ f e ps a b, o = .loop .ready none f e ps a b := by
 cases o with
 | loop st p f e ps a b => cases st <;> cases p <;> first | exact ⟨f, e, ps, a, b, rfl⟩ | cases h
 | _ => cases h
section
variable (L : List Obj) (cs cs' : List Slot) (g a : List Obj) (o : Obj) (T : List Nat) (t : TI) (p : Option AExit) (st : LSt)
@[go_sem] theorem Qck : ldV t false (lay0 L cs g T) (.val (.vp L.length 0)) = ofSlots t (cs.take t.size) := by
  simp [ldV, lay0]
@[go_sem] theorem QkR : ldV t false (lay L cs g o a T) (.val (.vp L.length 0)) = ofSlots t (cs.take t.size) := Qck ..
variable {cs cs'} in
@[go_sem] theorem Q9m (h : cs'.length = cs.length) : stV (lay0 L cs g T) (.val (.vp L.length 0)) cs' = some (lay0 L cs' g T) := by
  simp [stV, lay0, putAt, h]
variable {cs cs'} in
@[go_sem] theorem Q7C (h : cs'.length = cs.length) : stV (lay L cs g o a T) (.val (.vp L.length 0)) cs' = some (lay L cs' g o a T) := Q9m _ _ _ h
theorem Q4S : (lay L cs g o a T).locs[L.length + 1 + g.length]? = some o := by
 simp only [lay]
 rw [List.getElem?_append_right (by omega), show L.length + 1 + g.length - L.length = g.length + 1 by omega, List.getElem?_cons_succ, List.getElem?_append_right (by omega)]
 simp
theorem Qaf (o' : Obj) : (lay L cs g o a T).locs.set (L.length + 1 + g.length) o' = L ++ (.var cs :: (g ++ (o' :: a))) := by
 simp only [lay]
 rw [List.set_append_right _ _ (by omega), show L.length + 1 + g.length - L.length = g.length + 1 by omega, List.set_cons_succ, List.set_append_right _ _ (by omega)]
 simp
variable {o} in
@[go_sem] theorem Q6l (h : isReady o = true) : beginL (L.length + 1 + g.length) (lay L cs g o a T) = some (lay L cs g (reL .busy none o) a T) := by
  obtain ⟨f, e, ps, x, y, rfl⟩ := Q2q h
  unfold beginL
  rw [Q4S]
  simp only [Qaf]; rfl
variable {o} in
theorem Q3r (h : isReady o = true) (q : LSt) (r : Option AExit) : setLoop (L.length + 1 + g.length) q r (lay L cs g (reL st p o) a T) = some (lay L cs g (reL q r o) a T) := by
 obtain ⟨f, e, ps, x, y, rfl⟩ := Q2q h
 unfold setLoop
 rw [Q4S]
 simp only [reL, Qaf]; rfl
variable {o} in
theorem Q22 (h : isReady o = true) : reL .ready none o = o := by
 obtain ⟨f, e, ps, x, y, rfl⟩ := Q2q h
 rfl
variable {o} in
theorem Q8M (h : isReady o = true) (hs : st ≠ .busy) (kn kr : St → Res) (ke : Nat → St → Res) : endX (L.length + 1 + g.length) (lay L cs g (reL st p o) a T) kn kr ke = pendX p kn kr ke (lay L cs g (reL .exhausted p o) a T) := by
 have e1 := Q3r L cs g a T p st h .exhausted p
 obtain ⟨f, e, ps, x, y, rfl⟩ := Q2q h
 simp only [reL] at e1 ⊢
 unfold endX
 rw [Q4S]
 cases st <;> first | (exact absurd rfl hs) | (simp only [e1]; rfl)
theorem Qae : (lay0 L cs g T).locs.length = L.length + 1 + g.length := by simp [lay0]; omega
theorem Qad : (lay0 L cs g T).addLoc o = lay L cs g o [] T := by simp [lay0, lay, St.addLoc]
end
theorem addVar (s : St) (cs : List Slot) : s.addLoc (.var cs) = lay0 s.locs cs [] s.toks := rfl
theorem Grew.lay0 {s : St} (cs : List Slot) (g : List Obj) (b : List Nat) : Grew s (lay0 s.locs cs g (s.toks ++ b)) := ⟨⟨_, rfl⟩, ⟨b, rfl⟩⟩
theorem Grew.lay {s : St} (cs : List Slot) (g : List Obj) (o : Obj) (a : List Obj) (b : List Nat) : Grew s (lay s.locs cs g o a (s.toks ++ b)) := ⟨⟨_, rfl⟩, ⟨b, rfl⟩⟩
theorem Grew.layE {s : St} (cs : List Slot) (g : List Obj) (o : Obj) (a : List Obj) : Grew s (Am.lay s.locs cs g o a s.toks) := ⟨⟨_, rfl⟩, ⟨[], by simp [Am.lay]⟩⟩
theorem Grew.of_lay0 {L : List Obj} {cs : List Slot} {T : List Nat} {s : St} (h : Grew (Am.lay0 L cs [] T) s) : ∃ g b, s = Am.lay0 L cs g (T ++ b) := by
 obtain ⟨⟨a, ha⟩, b, hb⟩ := h
 refine ⟨a, b, ?_⟩
 obtain ⟨l, t⟩ := s
 simp only [Am.lay0] at ha hb ⊢
 rw [ha, hb]; simp
end Go.Am
namespace Go.Proofs.Ytoahliipbclneaa
open Go Go.Am
set_option linter.unusedVariables false
set_option maxRecDepth 4000
def cstep (most : Int) (n : TNode) (k : Int) : Int × Bool := (bif n.isNode then IntKind.i64.wrap (k + 1) else k, !decide ((bif n.isNode then IntKind.i64.wrap (k + 1) else k) ≥ most))
theorem Q44 (most : Int) : ∀ (l : List TNode) (n : Nat), (n : Int) < most → n + l.length < 2^62 → walk (cstep most) l n = (if ((n + countN l : Nat) : Int) < most then (((n + countN l : Nat) : Int), true) else (most, false))
 | [], n, h, _ => by simp [walk, countN, h]
 | u :: l, n, h, hb => by
   simp only [List.length_cons] at hb
   have hw : IntKind.i64.wrap ((n : Int) + 1) = ((n + 1 : Nat) : Int) := by rw [wrap64 (by omega) (by omega)]; rfl
   simp only [walk, cstep]
   cases hu : u.isNode
   ·have e : countN (u :: l) = countN l := by simp [countN, hu]
    have e2 : (!decide ((n : Int) ≥ most)) = true := by simpa using h
    simp only [cond_false, e2, cond_true, e]
    exact Q44 most l n h (by omega)
   ·have e : countN (u :: l) = countN l + 1 := by simp [countN, hu]
    simp only [cond_true, hw, e]
    by_cases h2 : ((n + 1 : Nat) : Int) < most
    ·have e2 : (!decide (((n + 1 : Nat) : Int) ≥ most)) = true := by simpa using h2
     rw [e2, cond_true, Q44 most l (n + 1) h2 (by omega), show n + 1 + countN l = n + (countN l + 1) by omega]
    ·have e2 : (!decide (((n + 1 : Nat) : Int) ≥ most)) = false := by simpa using h2
     rw [e2, cond_false, if_neg (by omega)]
     congr 1; omega
def rstep (n : TNode) (b : TBad) : TBad × Bool := bif decide (n.bad.kind = 0) then (b, true) else (n.bad, false)
theorem Q7c : ∀ (l : List TNode) (b : TBad), walk rstep l b = bif l.all (fun n => decide (n.bad.kind = 0)) then (b, true) else (firstBad l, false)
 | [], b => rfl
 | u :: l, b => by
   simp only [walk, rstep, List.all_cons, firstBad]
   cases hu : decide (u.bad.kind = 0)
   ·rfl
   ·simp only [cond_true, Bool.true_and]
    exact Q7c l b
theorem Q4e : ∀ l : List TNode, l.all (fun n => decide (n.bad.kind = 0)) = true → firstBad l = .zero
 | [], _ => rfl
 | u :: l, h => by
   rw [List.all_cons, Bool.and_eq_true] at h
   rw [firstBad, h.1, cond_true]
   exact Q4e l h.2
theorem Q86 (nd : TNode) (r : List AV) : boxCells (C.ti Qy) (.val (nd.thing r)) = some ((nd.thing r).cells.map .val) := by cases nd <;> simp only [go_sem, Nat.reduceAdd, TNode.thing]
theorem Q87 (nd : TNode) (r : List AV) (a b c d e f g h : Slot) : putAt [a, b, c, d, e, f, g, h] 0 ((nd.thing r).cells.map .val) = some ((nd.thing r).cells.map .val) := by cases nd <;> rfl
theorem Q6Z (nd : TNode) (r : List AV) : aggO (C.ti Qy) (avs (List.take 8 ((nd.thing r).cells.map .val))) = some (.val (nd.thing r)) := by cases nd <;> kernel_rfl
structure SeqOK (h : AV) (nodes : List TNode) : Prop where
 ok : ∃ g l, h = .fn g l ∧ (C.ext g).isSome = false ∧ ∀ (σ : Type) (step : TNode → σ → σ × Bool) (R : σ × Bool → St → Prop) (P : TNode → Prop) (loc : Nat), YOK step R P loc → (∀ n ∈ nodes, P n) → ∀ st s, R (st, true) s →
  ∃ v s', cw (.f g) (.yld loc :: l) s = some (.ret v, s') ∧ R (walk step nodes st) s'
theorem SeqOK.range {h : AV} {nodes : List TNode} (H : SeqOK h nodes) {σ : Type} {step : TNode → σ → σ × Bool} {R : σ × Bool → St → Prop} {P : TNode → Prop} {loc : Nat} (hY : YOK step R P loc) (hP : ∀ n ∈ nodes, P n) {st : σ} {s : St} (hR : R (st, true) s) (k : St → Res) :
  ∃ s', rangeC C cw (.val h) loc s k = k s' ∧ R (walk step nodes st) s' := by
 obtain ⟨g, l, rfl, he, H⟩ := H.ok
 obtain ⟨v, s', e, g'⟩ := H σ step R P loc hY hP st s hR
 refine ⟨s', ?_, g'⟩
 unfold rangeC
 have : tgtV (.val (.fn g l)) [] = some (.f g, l) := rfl
 rw [this]
 simp only [he, cond_false, e]
 rfl
theorem Q5n (l : List Dec) (nl : Bool) (s : St) (h : Dec.sizes l < 2^40) : ∃ q, cw (.f Q1J) [encS nl (l.map Dec.enc)] s = some (.ret (.val q), s) ∧ SeqOK q (nodesDecs false l) := by
 refine ⟨.fn Q16 [.cp [encS nl (l.map Dec.enc)]], ?_, ⟨_, _, rfl, by kernel_rfl, fun σ step R P loc hY hP st s hR => ?_⟩⟩
 ·rw [Q76]; simp only [go_sem]
 ·obtain ⟨s', e, g⟩ := (QaS hY (Dec.sizes l)).2.2 l (Nat.le_refl _) h (encS nl (l.map Dec.enc)) false (by simp only [go_sem]) hP st s hR
  rw [Q5m]; simp only [go_sem, Nat.reduceAdd, Nat.reduceLeDiff, e]
  exact ⟨_, s', rfl, g⟩
theorem Q73 {h : AV} {nodes : List TNode} (H : SeqOK h nodes) (most : Nat) (hm : 0 < most) (hl : nodes.length < 2^61) (s : St) : Ret (cw (.f Q1g) [h, .int .i64 most] s) s (.int .i64 (min (countN nodes) most : Nat)) := by
 let o := Q2b (.val (.cp [.int .i64 most])) (.val (.vp s.locs.length 0))
 have ho : isReady o = true := rfl
 let R : Int × Bool → St → Prop := fun p s1 => s1 = lay s.locs [.val (.int .i64 p.1)] [] (bif p.2 then o else reL .done (some (.exit 0)) o) [] s.toks
 have hY : YOK (cstep most) R (fun _ => True) (s.locs.length + 1) := by
  rintro nd r st s1 - rfl
  simp only [cond_true]
  have b0 := Q4S s.locs [.val (.int .i64 st)] [] [] o s.toks
  rw [List.length_nil, Nat.add_zero] at b0
  rw [cw, Q7G b0]
  rw [Q68]
  have b1 := Q6l s.locs [.val (.int .i64 st)] [] [] s.toks ho
  have b2 : ∀ n st p q r, setLoop (s.locs.length + 1) q r (lay s.locs [.val (.int .i64 n)] [] (reL st p o) [] s.toks) = _ := fun n st p q r => Q3r s.locs [.val (.int .i64 n)] [] [] s.toks p st ho q r
  simp only [List.length_nil, Nat.add_zero] at b1
  simp only [go_sem, Nat.reduceAdd, Nat.reduceLeDiff, Q86, Q87, Q6Z, b1]
  simp only [go_sem, Nat.reduceAdd, Nat.reduceLeDiff, Zt (show (Slot.val (nd.thing r)).av = some (nd.thing r) from rfl), Q41]
  have b3 : ∀ n st p v', stV (lay s.locs [.val (.int .i64 n)] [] (reL st p o) [] s.toks) (.val (.vp s.locs.length 0)) [.val v'] = _ := fun n st p v' => Q7C s.locs [] [] (reL st p o) s.toks rfl
  cases hn : nd.isNode
  ·simp only [go_sem, b2, cstep, hn]
   cases hd : decide (st ≥ (most : Int))
   ·simp only [go_sem]; exact ⟨_, rfl, by simp only [R, Bool.not_false, cond_true, Q22 ho]⟩
   ·simp only [go_sem]; exact ⟨_, rfl, by simp only [R, Bool.not_true, cond_false]⟩
  ·simp only [go_sem, b2, b3, cstep, hn]
   cases hd : decide (IntKind.i64.wrap (st + 1) ≥ (most : Int))
   ·simp only [go_sem]; exact ⟨_, rfl, by simp only [R, Bool.not_false, cond_true, Q22 ho]⟩
   ·simp only [go_sem]; exact ⟨_, rfl, by simp only [R, Bool.not_true, cond_false]⟩
 rw [Q8t]
 simp only [go_sem, Nat.reduceAdd, addVar, Qae, Qad]
 obtain ⟨s', e, g⟩ := H.range hY (fun _ _ => trivial) (st := 0) (s := lay s.locs [.val (.int .i64 0)] [] o [] s.toks) rfl (fun s_10 => endX (s.locs.length + 1) s_10 (fun s_11 => bind1 (ldV (C.ti Q1) false s_11 (.val (.vp s.locs.length 0))) fun v16 => some (.ret v16, s_11)) (fun s_12 => some (.ret (.val (.int .i64 0)), s_12)) (fun j s_13 => bif Nat.beq j 0 then (bind1 (ldV (C.ti Q1) false s_13 (.val (.vp s.locs.length 0))) fun v16_1 => some (.ret v16_1, s_13)) else none))
 refine (congrArg (fun r => Ret r s (.int .i64 (min (countN nodes) most : Nat))) (Eq.trans rfl e)).mpr ?_
 have := Q44 most nodes 0 (by omega) (by omega)
 rw [Nat.zero_add] at this
 rw [show ((0 : Nat) : Int) = 0 from rfl] at this
 rw [this] at g
 have b2 : ∀ n st p, st ≠ .busy → ∀ kn kr ke, endX (s.locs.length + 1) (lay s.locs [.val (.int .i64 n)] [] (reL st p o) [] s.toks) kn kr ke = _ := fun n st p hs kn kr ke => Q8M s.locs [.val (.int .i64 n)] [] [] s.toks p st ho hs kn kr ke
 subst g
 by_cases hc : (countN nodes : Int) < most
 ·rw [if_pos hc]
  simp only [cond_true]
  rw [← Q22 ho, b2 _ _ _ (by intro h; cases h), show min (countN nodes) most = countN nodes by omega]
  simp only [go_sem, Nat.reduceAdd, Nat.reduceLeDiff, pendX]
  exact Ret.mk (.layE _ _ _ _)
 ·rw [if_neg hc]
  simp only [cond_false]
  rw [b2 _ _ _ (by intro h; cases h), show min (countN nodes) most = most by omega]
  simp only [go_sem, Nat.reduceAdd, Nat.reduceLeDiff, pendX, Nat.beq]
  exact Ret.mk (.layE _ _ _ _)
def NumOK (d : AV) (n : Int) : Prop := ∃ g l, d = .fn g l ∧ ∀ s, cw (.f g) l s = some (.ret (.val (.int .i64 n)), s)
theorem Qc0 (b : TBad) : aggO (C.ti Q6) (avs (List.take 3 (b.cells.map .val))) = some (.val b.enc) := by kernel_rfl
theorem Q77 {h d : AV} {nodes : List TNode} {n : Int} (H : SeqOK h nodes) (HD : NumOK d n) (hl : nodes.length < 2^61) (hn : ∀ nd ∈ nodes, nd.name.length < 2^40) (s : St) : Ret (cw (.f Q1j) [h, d] s) s (rightN nodes n).enc := by
 rw [Q8x]
 obtain ⟨s1, e1, g1⟩ := Q73 H 8193 (by decide) hl (s.addLoc (.var (TBad.zero.cells.map .val)))
 obtain ⟨gf, gl, rfl, hd⟩ := HD
 rw [addVar] at e1 g1
 obtain ⟨g, b, rfl⟩ := g1.of_lay0
 have e0 : s.addLoc (.var (List.map .val (C.ti Q6).zero)) = lay0 s.locs (TBad.zero.cells.map .val) [] s.toks := rfl
 rw [e0]
 rw [show ((8193 : Nat) : Int) = 8193 from rfl] at e1
 have hT : ∃ c, s.toks ++ b = s.toks ++ c := ⟨b, rfl⟩
 generalize s.toks ++ b = T at *
 have k1 : ∀ v : List AV, v.length = 3 → ∀ r, Ret (some (.ret (.val r), lay0 s.locs (v.map .val) g T)) s r := fun v _ r => by obtain ⟨c, rfl⟩ := hT; exact Ret.mk (.lay0 _ _ _)
 have k2 : ∀ (v : List AV) o a r, Ret (some (.ret (.val r), lay s.locs (v.map .val) g o a T)) s r := fun v o a r => by obtain ⟨c, rfl⟩ := hT; exact Ret.mk (.lay _ _ _ _ _)
 have hst0 : ∀ x y z : AV, stV (lay0 s.locs (TBad.zero.cells.map .val) g T) (.val (.vp s.locs.length 0)) [.val x, .val y, .val z] = some (lay0 s.locs ([x, y, z].map .val) g T) := fun x y z => Q9m _ _ _ rfl
 have hst : ∀ (c : TBad) o x y z, stV (lay s.locs (c.cells.map .val) g o [] T) (.val (.vp s.locs.length 0)) [.val x, .val y, .val z] = some (lay s.locs ([x, y, z].map .val) g o [] T) := fun c o x y z => Q7C _ _ _ _ _ rfl
 have hb : ∀ x y z : AV, aggO (C.ti Q6) (avs (List.take 3 ([x, y, z].map .val))) = some (.val (.agg [x, y, z])) := fun x y z => by kernel_rfl
 simp only [go_sem, Nat.reduceAdd, Nat.reduceLeDiff, e1, Zt (show (Slot.val h).av = some h from rfl), hd, hst0, hb]
 have hc : decide (((min (countN nodes) 8193 : Nat) : Int) > 8192) = decide (countN nodes > 8192) := by simp only [gt_iff_lt]; congr 1; rw [eq_iff_iff]; omega
 rw [hc]
 unfold rightN
 cases decide (countN nodes > 8192) with
 | true => simp only [go_sem]; exact k1 [_, _, _] rfl _
 | false =>
   cases decide (n > 100) with
   | true => simp only [go_sem]; exact k1 [_, _, _] rfl _
   | false =>
     simp only [go_sem, Qae, Qad]
     let o := Q2c (.val (.vp s.locs.length 0))
     have ho : isReady o = true := rfl
     let R : TBad × Bool → St → Prop := fun p s1 => s1 = lay s.locs (p.1.cells.map .val) g (bif p.2 then o else reL .done (some .ret) o) [] T
     have hY : YOK rstep R (fun nd => nd.name.length < 2^40) (s.locs.length + 1 + g.length) := by
      rintro nd r st s1 hP rfl
      simp only [cond_true]
      rw [cw, Q7G (Q4S _ _ _ _ _ _), Q69]
      have b1 := Q6l s.locs (st.cells.map .val) g [] T ho
      have b2 : ∀ (c : List AV) st p q r, setLoop (s.locs.length + 1 + g.length) q r (lay s.locs (c.map .val) g (reL st p o) [] T) = _ := fun c st p q r => Q3r s.locs (c.map .val) g [] T p st ho q r
      simp only [go_sem, Nat.reduceAdd, Nat.reduceLeDiff, Q86, Q87, Q6Z, b1]
      simp only [go_sem, Zt (show (Slot.val (nd.thing r)).av = some (nd.thing r) from rfl), Q3K _ _ _ hP]
      unfold rstep
      generalize nd.bad = bd
      obtain ⟨k, a, nm⟩ := bd
      obtain ⟨k0, a0, nm0⟩ := st
      have b3 : ∀ p x y z x' y' z', stV (lay s.locs [.val x', .val y', .val z'] g (reL .busy p o) [] T) (.val (.vp s.locs.length 0)) [.val x, .val y, .val z] = some (lay s.locs ([x, y, z].map .val) g (reL .busy p o) [] T) := fun p x y z x' y' z' => Q7C _ _ _ _ _ rfl
      have b4 := b2 [.int .i64 k0, .int .i64 a0, .str nm0]
      have b5 := b2 [.int .i64 k, .int .i64 a, .str nm]
      simp only [List.map] at b3 b4 b5
      simp only [go_sem, Nat.reduceAdd, Nat.reduceLeDiff, TBad.enc, TBad.cells, b3, b4, b5]
      cases hk : decide (k = 0)
      ·simp only [go_sem]; exact ⟨_, rfl, by simp only [R, cond_false]; rfl⟩
      ·simp only [go_sem]; exact ⟨_, rfl, by simp only [R, cond_true, Q22 ho]; rfl⟩
     obtain ⟨s', e, gR⟩ := H.range hY hn (st := TBad.zero) (s := lay s.locs (TBad.zero.cells.map .val) g o [] T) rfl (fun s_11 => endX (s.locs.length + 1 + g.length) s_11 (fun s_12 => bindS (stV s_12 (.val (.vp s.locs.length 0)) [.val (.int .i64 0), .val (.int .i64 0), .val (.str [])]) fun s_15 => bind1 (ldV (C.ti Q6) false s_15 (.val (.vp s.locs.length 0))) fun v => some (.ret v, s_15)) (fun s_13 => bind1 (ldV (C.ti Q6) false s_13 (.val (.vp s.locs.length 0))) fun v => some (.ret v, s_13)) (fun j s_14 => bif Nat.beq j 0 then ( bindS (stV s_14 (.val (.vp s.locs.length 0)) [.val (.int .i64 0), .val (.int .i64 0), .val (.str [])]) fun s_16 => bind1 (ldV (C.ti Q6) false s_16 (.val (.vp s.locs.length 0))) fun v => some (.ret v, s_16)) else ( (none : Res))))
     refine (congrArg (fun r => Ret r s (firstBad nodes).enc) e).mpr ?_
     have b2 : ∀ (c : List AV) st p, st ≠ .busy → ∀ kn kr ke, endX (s.locs.length + 1 + g.length) (lay s.locs (c.map .val) g (reL st p o) [] T) kn kr ke = _ := fun c st p hs kn kr ke => Q8M s.locs (c.map .val) g [] T p st ho hs kn kr ke
     rw [Q7c] at gR
     simp only [R] at gR
     subst gR
     cases ha : nodes.all fun nd => decide (nd.bad.kind = 0)
     ·simp only [cond_false]
      rw [b2 _ _ _ (by intro h; cases h)]
      simp only [go_sem, pendX, Qc0]
      exact k2 _ _ _ _
     ·simp only [cond_true]
      rw [← Q22 ho, b2 _ _ _ (by intro h; cases h), Q4e _ ha]
      simp only [go_sem, Nat.reduceAdd, Nat.reduceLeDiff, pendX, hst, hb]
      exact k2 [_, _, _] _ _ _
end Go.Proofs.Ytoahliipbclneaa
namespace Go.Am
open Go
def varOf (p : Pat) : List Str := bif decide (p.kind = 2) || decide (p.kind = 6) then [p.name] else []
mutual
def varsPat : Pat → List Str
 | .mk k a s n l b => varOf (.mk k a s n l b) ++ varsPats l
def varsPats : List Pat → List Str
 | [] => []
 | t :: l => varsPat t ++ varsPats l
end
theorem QbR (p : Pat) : (varOf p).length ≤ 1 := by unfold varOf; cases decide (p.kind = 2) <;> cases decide (p.kind = 6) <;> simp
mutual
theorem Q9X : ∀ t : Pat, (varsPat t).length ≤ t.size
 | .mk k a s n l b => by have h1 := QbR (.mk k a s n l b); have h2 := Q5f l; simp only [varsPat, Pat.size, List.length_append]; omega
theorem Q5f : ∀ l : List Pat, (varsPats l).length ≤ Pat.sizes l
 | [] => Nat.le_refl _
 | t :: l => by have h1 := Q9X t; have h2 := Q5f l; simp only [varsPats, Pat.sizes, List.length_append]; omega
end
theorem TNode.ok_name {n : TNode} (h : n.ok) : n.name.length < 2^40 := by
 cases n <;> first | exact h | exact h.1
@[go_sem] theorem QkH (f : FuncId) (v : AV) : fnS f [.val v] = some (.val (.fn f [v])) := id rfl
theorem AccR.relay {e : TypeId} {s s1 s2 : St} {x : Slot} {l : List AV} (h : AccR e s s1 x l) (ht : s2.toks = s1.toks) (hl : ∃ a, s2.locs = s.locs ++ a) : AccR e s s2 x l := by
 obtain ⟨⟨_, b, hb⟩, h2⟩ := h
 exact ⟨⟨hl, b, by rw [ht, hb]⟩, by rw [ht]; exact h2⟩
theorem Q1q {e : TypeId} {t : TI} {s s' : St} {x y x' : Slot} (h : appendS e t s x y = some (x', s')) : s'.locs = s.locs := by
 unfold appendS at h
 split at h
 ·split at h <;> cases h
  rfl
 ·cases hz : okSz t.size ‹List AV› with
  | false => rw [hz] at h; cases h
  | true =>
    rw [hz] at h
    simp only [cond_true] at h
    split at h
    ·revert h
     cases okSz t.size ‹List AV› with
     | false => intro h; cases h
     | true =>
       intro h
       simp only [cond_true] at h
       split at h <;> cases h
       rfl
    ·revert h
     cases okSz t.size ‹List AV› with
     | false => intro h; cases h
     | true =>
       intro h
       simp only [cond_true] at h
       split at h <;> cases h
       rfl
    ·split at h <;> cases h
     rfl
    ·cases h
 ·cases h
end Go.Am
namespace Go.Proofs.Ytoahliipbclneaa
open Go Go.Am
set_option linter.unusedVariables false
set_option maxRecDepth 4000
section
variable (R : Nat → List Str → St → Prop) (loc : Nat)
variable {R} {loc}
end
theorem Q71 (l : List Dec) (nl : Bool) (s : St) (h : Dec.sizes l < 2^26) (H : ∀ n ∈ nodesDecs false l, n.ok) : Ret (cw (.f Q2A) [encS nl (l.map Dec.enc)] s) s (rightN (nodesDecs false l) (deepDecs l 0)).enc := by
 obtain ⟨q, e1, hq⟩ := Q5n l nl s (by omega)
 have hlen := Q2a false l
 have hd : NumOK (.fn Q1I [.cp [encS nl (l.map Dec.enc)]]) (deepDecs l 0) := ⟨_, _, rfl, fun s => by
  rw [Q70]; simp only [go_sem, Nat.reduceAdd, Nat.reduceLeDiff, Q54 l nl s (by omega)]⟩
 obtain ⟨s', e2, g2⟩ := Q77 hq hd (by omega) (fun nd hn => TNode.ok_name (H nd hn)) s
 revert e2
 generalize rightN _ _ = b
 intro e2
 obtain ⟨k, a, nm⟩ := b
 rw [Q8s]; simp only [go_sem, Nat.reduceAdd, Nat.reduceLeDiff, e1, Zt (show (Slot.val q).av = some q from rfl), e2, TBad.enc, TBad.cells]
 exact Ret.mk g2
end Go.Proofs.Ytoahliipbclneaa