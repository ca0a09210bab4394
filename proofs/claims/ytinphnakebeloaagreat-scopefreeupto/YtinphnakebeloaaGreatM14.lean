/- A part of the proof: SRef5, SRef6, SLaw12, SRef7, SRef8, PRef11, SRef11, SRef11b, PRef12, SRef12, PRN. -/
import Derived.Test.YtinphnakebeloaaGreatM6
import Derived.Test.YtinphnakebeloaaGreatM7
import Derived.Test.YtinphnakebeloaaGreatM8
import Derived.Test.YtinphnakebeloaaGreatM9
import Derived.Test.YtinphnakebeloaaGreatM10
import Derived.Test.YtinphnakebeloaaGreatM12
import Derived.Test.YtinphnakebeloaaGreatM13
import Derived.Lib.IndexMore
set_option linter.unusedVariables false
set_option linter.unusedSimpArgs false
namespace Go.Proofs.YtinphnakebeloaaGreat
open Go Go.Am
set_option linter.unusedVariables false
set_option maxRecDepth 4000
abbrev Nodes (r : Res) (s : St) (l : List TNode) : Prop := RetA r Qc s (l.map TNode.enc)
abbrev NAcc (s0 s : St) (x : Slot) (l : List TNode) : Prop := AccR Qc s0 s x (l.map TNode.enc)
theorem nacc {s0 s : St} {x y : Slot} {A B : List TNode} (h : NAcc s0 s x A) (hy : y.list? = some (B.map TNode.enc)) (b : A.length + B.length < 2^30) : ∃ x' s', appendS Qc (C.ti Qc) s x y = some (x', s') ∧ NAcc s0 s' x' (A ++ B) :=
 AccR.appendF h hy (fun a => by rw [Q55]; exact TNode.cells_len a) (by rw [Q55]; decide) b (by rw [Q92]; decide)
theorem Q6S (a : Int) (t : Ty) (hl : t.args.length < 2^40) (s0 : St) : ∀ (suf pre : List Ty) (A : List TNode) (x : Slot) (s : St) (i : Nat), NAcc s0 s x A → pre ++ suf = t.args → i = pre.length → (∀ t ∈ suf, ∀ s, Nodes (cw (.f Q17) [t.enc, .int .i64 a] s) s (nodesTy a t)) → A.length + Ty.sizes suf < 2^30 →
  Nodes (Q1V (.val (.int .i64 a)) (t.cells.map .val) x (.val (.int .i64 i)) s) s0 (A ++ nodesTys a suf)
 | [], pre, A, x, s, i, hx, h, hi, H, hb => by
   subst hi
   rw [Q68]; simp only [go_sem, Nat.reduceAdd, Nat.reduceLeDiff, Ty.cells_eq, Q8 (by simpa using h), nodesTys]
   exact RetA.mk hx
 | u :: suf, pre, A, x, s, i, hx, h, hi, H, hb => by
   subst hi
   obtain ⟨f1, f2, f3⟩ := Q6 (x := .val (encS t.nl (t.args.map Ty.enc))) (Q9 _ _) h (by omega) (Ty.cells_len u) (by decide)
   obtain ⟨y, s1, e1, g1⟩ := H u (List.mem_cons_self) s
   have hlen := Q4E a u
   simp only [Ty.sizes] at hb
   obtain ⟨x', s2, e2, g2⟩ := nacc (hx.move g1.grew) g1.list? (by omega)
   have := Q6S a t hl s0 suf (pre ++ [u]) (A ++ nodesTy a u) x' s2 (pre.length + 1) g2 (by simpa using h) (by simp) (fun w hw => H w (List.mem_cons_of_mem _ hw)) (by rw [List.length_append]; omega)
   rw [Q68]; rw [Ty.cells_eq] at this ⊢; simp only [go_sem, Nat.reduceAdd, Nat.reduceLeDiff, f1, f2, f3, e1, e2] at this ⊢
   simp only [nodesTys]
   exact this
theorem Q6T : ∀ (m : Nat) (a : Int) (t : Ty) (s : St), t.size ≤ m → t.size < 2^28 → Nodes (cw (.f Q17) [t.enc, .int .i64 a] s) s (nodesTy a t)
 | 0, a, .mk _ _ _ _ _, _, h, _ => by simp only [Ty.size] at h; omega
 | m + 1, a, .mk k n nm l nl, s, h, h' => by
   simp only [Ty.size] at h h'
   have hl := Ty.len_sizes l
   have := Q6S a (.mk k n nm l nl) (by simp only [Ty.args]; omega) s l [] [.ty (.mk k n nm l nl) a] (.full [(TNode.ty (.mk k n nm l nl) a).enc]) s 0 (AccR.full _ _ _) rfl rfl (fun u hu s => by have := Ty.mem_sizes hu; exact Q6T m a u s (by omega) (by omega)) (by simp only [List.length_singleton]; omega)
   rw [Qe3]; simp only [go_sem, Nat.reduceAdd, Nat.reduceLeDiff, Ty.enc, TNode.cells, Dec.zero, Exp.zero, Pat.zero, Fun.zero, Case.zero, Con.zero, Ty.zero, Con.cells, TNode.enc, nodesTy] at this ⊢
   exact this
theorem Q66 (t : Pat) (hl : t.kids.length < 2^40) (s0 : St) : ∀ (suf pre : List Pat) (A : List TNode) (x : Slot) (s : St) (i : Nat), NAcc s0 s x A → pre ++ suf = t.kids → i = pre.length → (∀ t ∈ suf, ∀ s, Nodes (cw (.f Q0y) [t.enc] s) s (nodesPat t)) → A.length + Pat.sizes suf < 2^30 →
  Nodes (Q1q (t.cells.map .val) x (.val (.int .i64 i)) s) s0 (A ++ nodesPats suf)
 | [], pre, A, x, s, i, hx, h, hi, H, hb => by
   subst hi
   rw [Q5e]; simp only [go_sem, Nat.reduceAdd, Nat.reduceLeDiff, Pat.cells_eq, Q8 (by simpa using h), nodesPats]
   exact RetA.mk hx
 | u :: suf, pre, A, x, s, i, hx, h, hi, H, hb => by
   subst hi
   obtain ⟨f1, f2, f3⟩ := Q6 (x := .val (encS t.kb (t.kids.map Pat.enc))) (Q9 _ _) h (by omega) (Pat.cells_len u) (by decide)
   obtain ⟨y, s1, e1, g1⟩ := H u (List.mem_cons_self) s
   have hlen := Q3M u
   simp only [Pat.sizes] at hb
   obtain ⟨x', s2, e2, g2⟩ := nacc (hx.move g1.grew) g1.list? (by omega)
   have := Q66 t hl s0 suf (pre ++ [u]) (A ++ nodesPat u) x' s2 (pre.length + 1) g2 (by simpa using h) (by simp) (fun w hw => H w (List.mem_cons_of_mem _ hw)) (by rw [List.length_append]; omega)
   rw [Q5e]; rw [Pat.cells_eq] at this ⊢; simp only [go_sem, Nat.reduceAdd, Nat.reduceLeDiff, f1, f2, f3, e1, e2] at this ⊢
   simp only [nodesPats]
   exact this
theorem Q67 : ∀ (m : Nat) (t : Pat) (s : St), t.size ≤ m → t.size < 2^28 → Nodes (cw (.f Q0y) [t.enc] s) s (nodesPat t)
 | 0, .mk _ _ _ _ _ _, _, h, _ => by simp only [Pat.size] at h; omega
 | m + 1, .mk k a nm n l nl, s, h, h' => by
   simp only [Pat.size] at h h'
   have hl := Pat.len_sizes l
   have := Q66 (.mk k a nm n l nl) (by simp only [Pat.kids]; omega) s l [] [.pat (.mk k a nm n l nl)] (.full [(TNode.pat (.mk k a nm n l nl)).enc]) s 0 (AccR.full _ _ _) rfl rfl (fun u hu s => by have := Pat.mem_sizes hu; exact Q67 m u s (by omega) (by omega)) (by simp only [List.length_singleton]; omega)
   rw [QcW]; simp only [go_sem, Nat.reduceAdd, Nat.reduceLeDiff, Pat.enc, TNode.cells, Dec.zero, Exp.zero, Pat.zero, Fun.zero, Case.zero, Con.zero, Ty.zero, Con.cells, TNode.enc, nodesPat, Pat.at_] at this ⊢
   exact this
def ofExpOK (t : Exp) : Prop := ∀ s, Nodes (cw (.f Zk) [t.enc] s) s (nodesExp t)
def ofCaseOK (t : Case) : Prop := ∀ s, Nodes (cw (.f Q16) [t.enc] s) s (nodesCase t)
def ofDecOK (t : Dec) : Prop := ∀ inn s, Nodes (cw (.f Q00) [t.enc, .bool inn] s) s (nodesDec inn t)
theorem QbV (p : Pat) (e : Exp) (h : ofExpOK e) (hs : (Case.mk p e).size < 2^28) : ofCaseOK (.mk p e) := fun s => by
 simp only [Case.size] at hs
 obtain ⟨y, s1, e1, g1⟩ := Q67 _ p s (Nat.le_refl _) (by omega)
 obtain ⟨z, s2, e2, g2⟩ := h s1
 have h1 := Q3M p
 have h2 := Q1i e
 obtain ⟨x', s3, e3, g3⟩ := nacc (g1.move g2.grew) g2.list? (by omega)
 rw [QbU]; simp only [go_sem, Nat.reduceAdd, Nat.reduceLeDiff, Nat.reduceSub, e1, e2, e3]
 simp only [nodesCase]
 exact RetA.mk g3
theorem Q48 (t : Exp) (hl : t.cases.length < 2^40) (s0 : St) : ∀ (suf pre : List Case) (A : List TNode) (x : Slot) (s : St) (i : Nat), NAcc s0 s x A → pre ++ suf = t.cases → i = pre.length → (∀ t ∈ suf, ofCaseOK t) → A.length + Case.sizes suf < 2^30 →
  Nodes (Q1p (t.cells.map .val) x (.val (.int .i64 i)) s) s0 (A ++ nodesCases suf)
 | [], pre, A, x, s, i, hx, h, hi, H, hb => by
   subst hi
   rw [Q5d]; simp only [go_sem, Exp.cells_eq, Q8 (by simpa using h), nodesCases]
   exact RetA.mk hx
 | u :: suf, pre, A, x, s, i, hx, h, hi, H, hb => by
   subst hi
   obtain ⟨f1, f2, f3⟩ := Q6 (x := .val (encS t.cb (t.cases.map Case.enc))) (Q9 _ _) h (by omega) (Case.cells_len u) (by decide)
   obtain ⟨y, s1, e1, g1⟩ := H u (List.mem_cons_self) s
   have hlen := Q1R u
   simp only [Case.sizes] at hb
   obtain ⟨x', s2, e2, g2⟩ := nacc (hx.move g1.grew) g1.list? (by omega)
   have := Q48 t hl s0 suf (pre ++ [u]) (A ++ nodesCase u) x' s2 (pre.length + 1) g2 (by simpa using h) (by simp) (fun w hw => H w (List.mem_cons_of_mem _ hw)) (by rw [List.length_append]; omega)
   rw [Q5d]; rw [Exp.cells_eq] at this ⊢; simp only [go_sem, Nat.reduceLeDiff, f1, f2, f3, e1, e2] at this ⊢
   simp only [nodesCases]
   exact this
theorem Q47 (t : Exp) (hl : t.kids.length < 2^40) (hl2 : t.cases.length < 2^40) (Hc : ∀ c ∈ t.cases, ofCaseOK c) (s0 : St) : ∀ (suf pre : List Exp) (A : List TNode) (x : Slot) (s : St) (i : Nat), NAcc s0 s x A → pre ++ suf = t.kids → i = pre.length → (∀ t ∈ suf, ofExpOK t) → A.length + Exp.sizes suf + Case.sizes t.cases < 2^30 →
  Nodes (Q1o (t.cells.map .val) x (.val (.int .i64 i)) s) s0 (A ++ (nodesExps suf ++ nodesCases t.cases))
 | [], pre, A, x, s, i, hx, h, hi, H, hb => by
   subst hi
   have := Q48 t hl2 s0 t.cases [] A x s 0 hx rfl rfl Hc (by omega)
   rw [Q5c]; rw [Exp.cells_eq] at this ⊢; simp only [go_sem, Q8 (by simpa using h), nodesExps] at this ⊢
   exact this
 | u :: suf, pre, A, x, s, i, hx, h, hi, H, hb => by
   subst hi
   obtain ⟨f1, f2, f3⟩ := Q6 (x := .val (encS t.kb (t.kids.map Exp.enc))) (Q9 _ _) h (by omega) (Exp.cells_len u) (by decide)
   obtain ⟨y, s1, e1, g1⟩ := H u (List.mem_cons_self) s
   have hlen := Q1i u
   simp only [Exp.sizes] at hb
   obtain ⟨x', s2, e2, g2⟩ := nacc (hx.move g1.grew) g1.list? (by omega)
   have := Q47 t hl hl2 Hc s0 suf (pre ++ [u]) (A ++ nodesExp u) x' s2 (pre.length + 1) g2 (by simpa using h) (by simp) (fun w hw => H w (List.mem_cons_of_mem _ hw)) (by rw [List.length_append]; omega)
   rw [Q5c]; rw [Exp.cells_eq] at this ⊢; simp only [go_sem, Nat.reduceLeDiff, f1, f2, f3, e1, e2] at this ⊢
   simp only [go_sem, nodesExps]
   exact this
theorem Q46 (t : Exp) (hl0 : t.decs.length < 2^40) (hl : t.kids.length < 2^40) (hl2 : t.cases.length < 2^40) (He : ∀ c ∈ t.kids, ofExpOK c) (Hc : ∀ c ∈ t.cases, ofCaseOK c) (s0 : St) : ∀ (suf pre : List Dec) (A : List TNode) (x : Slot) (s : St) (i : Nat), NAcc s0 s x A → pre ++ suf = t.decs → i = pre.length → (∀ t ∈ suf, ofDecOK t) → A.length + Dec.sizes suf + Exp.sizes t.kids + Case.sizes t.cases < 2^30 →
  Nodes (Q1n (t.cells.map .val) x (.val (.int .i64 i)) s) s0 (A ++ (nodesDecs true suf ++ (nodesExps t.kids ++ nodesCases t.cases)))
 | [], pre, A, x, s, i, hx, h, hi, H, hb => by
   subst hi
   have := Q47 t hl hl2 Hc s0 t.kids [] A x s 0 hx rfl rfl He (by omega)
   rw [Q5b]; rw [Exp.cells_eq] at this ⊢; simp only [go_sem, Nat.reduceAdd, Nat.reduceLeDiff, Q8 (by simpa using h), nodesDecs] at this ⊢
   exact this
 | u :: suf, pre, A, x, s, i, hx, h, hi, H, hb => by
   subst hi
   obtain ⟨f1, f2, f3⟩ := Q6 (x := .val (encS t.db (t.decs.map Dec.enc))) (Q9 _ _) h (by omega) (Dec.cells_len u) (by decide)
   obtain ⟨y, s1, e1, g1⟩ := H u (List.mem_cons_self) true s
   have hlen := Q5X true u
   simp only [Dec.sizes] at hb
   obtain ⟨x', s2, e2, g2⟩ := nacc (hx.move g1.grew) g1.list? (by omega)
   have := Q46 t hl0 hl hl2 He Hc s0 suf (pre ++ [u]) (A ++ nodesDec true u) x' s2 (pre.length + 1) g2 (by simpa using h) (by simp) (fun w hw => H w (List.mem_cons_of_mem _ hw)) (by rw [List.length_append]; omega)
   rw [Q5b]; rw [Exp.cells_eq] at this ⊢; simp only [go_sem, Nat.reduceAdd, Nat.reduceLeDiff, f1, f2, f3, e1, e2] at this ⊢
   simp only [go_sem, nodesDecs]
   exact this
theorem Q2c (t : Dec) (hl : t.cons.length < 2^40) (s0 : St) : ∀ (suf pre : List Con) (A : List TNode) (x : Slot) (s : St) (i : Nat), NAcc s0 s x A → pre ++ suf = t.cons → i = pre.length → A.length + Con.sizes suf < 2^28 →
  Nodes (Q0l (t.cells.map .val) x (.val (.int .i64 i)) s) s0 (A ++ nodesCons suf)
 | [], pre, A, x, s, i, hx, h, hi, hb => by
   subst hi
   rw [Q2J]; simp only [go_sem, Nat.reduceAdd, Nat.reduceLeDiff, Dec.cells_eq, Q8 (by simpa using h), nodesCons]
   exact RetA.mk hx
 | .mk nm a hs arg :: suf, pre, A, x, s, i, hx, h, hi, hb => by
   subst hi
   obtain ⟨f1, f2, f3⟩ := Q6 (x := .val (encS t.nb (t.cons.map Con.enc))) (Q9 _ _) h (by omega) (Con.cells_len ⟨nm, a, hs, arg⟩) (by decide)
   have hlen := Q4E a arg
   simp only [Con.sizes, Con.size] at hb
   obtain ⟨x', s2, e2, g2⟩ := nacc (B := [.con ⟨nm, a, hs, arg⟩]) (y := .full [(TNode.con ⟨nm, a, hs, arg⟩).enc]) hx rfl (by simp only [List.length_singleton]; omega)
   cases hs with
   | false =>
     have := Q2c t hl s0 suf (pre ++ [⟨nm, a, false, arg⟩]) (A ++ [.con ⟨nm, a, false, arg⟩]) x' s2 (pre.length + 1) g2 (by simpa using h) (by simp) (by simp only [List.length_append, List.length_singleton]; omega)
     rw [Q2J]; rw [Dec.cells_eq] at this ⊢; simp only [go_sem, Nat.reduceAdd, Nat.reduceLeDiff, f1, f2, f3, TNode.cells, Dec.zero, Exp.zero, Pat.zero, Fun.zero, Case.zero, Con.zero, Ty.zero, Con.cells, TNode.enc] at e2 this ⊢
     simp only [go_sem, e2, nodesCons, nodesCon]
     exact this
   | true =>
     obtain ⟨y, s1, e1, g1⟩ := Q6T _ a arg s2 (Nat.le_refl _) (by omega)
     obtain ⟨x3, s3, e3, g3⟩ := nacc (g2.move g1.grew) g1.list? (by simp only [List.length_append, List.length_singleton]; omega)
     have := Q2c t hl s0 suf (pre ++ [⟨nm, a, true, arg⟩]) (A ++ [.con ⟨nm, a, true, arg⟩] ++ nodesTy a arg) x3 s3 (pre.length + 1) g3 (by simpa using h) (by simp) (by simp only [List.length_append, List.length_singleton]; omega)
     rw [Q2J]; rw [Dec.cells_eq] at this ⊢; simp only [go_sem, Nat.reduceAdd, Nat.reduceLeDiff, f1, f2, f3, TNode.cells, Dec.zero, Exp.zero, Pat.zero, Fun.zero, Case.zero, Con.zero, Ty.zero, Con.cells, TNode.enc] at e2 this ⊢
     simp only [go_sem, e2, e1, e3, nodesCons, nodesCon]
     exact this
theorem Q45 (t : Dec) (hl : t.funs.length < 2^40) (hl2 : t.cons.length < 2^40) (s0 : St) : ∀ (suf pre : List Fun) (A : List TNode) (x : Slot) (s : St) (i : Nat), NAcc s0 s x A → pre ++ suf = t.funs → i = pre.length → (∀ f ∈ suf, ofCaseOK f.case) → A.length + Fun.sizes suf + Con.sizes t.cons < 2^28 →
  Nodes (Q1m (t.cells.map .val) x (.val (.int .i64 i)) s) s0 (A ++ (nodesFuns suf ++ nodesCons t.cons))
 | [], pre, A, x, s, i, hx, h, hi, H, hb => by
   subst hi
   have := Q2c t hl2 s0 t.cons [] A x s 0 hx rfl rfl (by omega)
   rw [Q5a]; rw [Dec.cells_eq] at this ⊢; simp only [go_sem, Nat.reduceAdd, Nat.reduceLeDiff, Q8 (by simpa using h), nodesFuns] at this ⊢
   exact this
 | .mk nm a c :: suf, pre, A, x, s, i, hx, h, hi, H, hb => by
   subst hi
   obtain ⟨f1, f2, f3⟩ := Q6 (x := .val (encS t.fb (t.funs.map Fun.enc))) (Q9 _ _) h (by omega) (Fun.cells_len (.mk nm a c)) (by decide)
   have hlen := Q1R c
   simp only [Fun.sizes, Fun.size] at hb
   obtain ⟨x', s2, e2, g2⟩ := nacc (B := [.fn (.mk nm a c)]) (y := .full [(TNode.fn (.mk nm a c)).enc]) hx rfl (by simp only [List.length_singleton]; omega)
   obtain ⟨y, s1, e1, g1⟩ := H (.mk nm a c) (List.mem_cons_self) s2
   simp only [Fun.case] at e1 g1
   obtain ⟨x3, s3, e3, g3⟩ := nacc (g2.move g1.grew) g1.list? (by simp only [List.length_append, List.length_singleton]; omega)
   have := Q45 t hl hl2 s0 suf (pre ++ [.mk nm a c]) (A ++ [.fn (.mk nm a c)] ++ nodesCase c) x3 s3 (pre.length + 1) g3 (by simpa using h) (by simp) (fun w hw => H w (List.mem_cons_of_mem _ hw)) (by simp only [List.length_append, List.length_singleton]; omega)
   rw [Q5a]; rw [Dec.cells_eq] at this ⊢; simp only [go_sem, Nat.reduceAdd, Nat.reduceLeDiff, f1, f2, f3, TNode.cells, Dec.zero, Exp.zero, Pat.zero, Fun.zero, Case.zero, Con.zero, Ty.zero, Con.cells, TNode.enc, Fun.at_] at e2 this ⊢
   simp only [go_sem, e2, e1, e3, nodesFuns, nodesFun]
   exact this
theorem Q44 (t : Dec) (hl0 : t.case.length < 2^40) (hl : t.funs.length < 2^40) (hl2 : t.cons.length < 2^40) (Hf : ∀ f ∈ t.funs, ofCaseOK f.case) (s0 : St) : ∀ (suf pre : List Case) (A : List TNode) (x : Slot) (s : St) (i : Nat), NAcc s0 s x A → pre ++ suf = t.case → i = pre.length → (∀ f ∈ suf, ofCaseOK f) → A.length + Case.sizes suf + Fun.sizes t.funs + Con.sizes t.cons < 2^28 →
  Nodes (Q1l (t.cells.map .val) x (.val (.int .i64 i)) s) s0 (A ++ (nodesCases suf ++ (nodesFuns t.funs ++ nodesCons t.cons)))
 | [], pre, A, x, s, i, hx, h, hi, H, hb => by
   subst hi
   have := Q45 t hl hl2 s0 t.funs [] A x s 0 hx rfl rfl Hf (by omega)
   rw [Q59]; rw [Dec.cells_eq] at this ⊢; simp only [go_sem, Q8 (by simpa using h), nodesCases] at this ⊢
   exact this
 | u :: suf, pre, A, x, s, i, hx, h, hi, H, hb => by
   subst hi
   obtain ⟨f1, f2, f3⟩ := Q6 (x := .val (encS t.cb (t.case.map Case.enc))) (Q9 _ _) h (by omega) (Case.cells_len u) (by decide)
   obtain ⟨y, s1, e1, g1⟩ := H u (List.mem_cons_self) s
   have hlen := Q1R u
   simp only [Case.sizes] at hb
   obtain ⟨x', s2, e2, g2⟩ := nacc (hx.move g1.grew) g1.list? (by omega)
   have := Q44 t hl0 hl hl2 Hf s0 suf (pre ++ [u]) (A ++ nodesCase u) x' s2 (pre.length + 1) g2 (by simpa using h) (by simp) (fun w hw => H w (List.mem_cons_of_mem _ hw)) (by rw [List.length_append]; omega)
   rw [Q59]; rw [Dec.cells_eq] at this ⊢; simp only [go_sem, Nat.reduceLeDiff, f1, f2, f3, e1, e2] at this ⊢
   simp only [go_sem, nodesCases]
   exact this
theorem Q9y : ∀ m : Nat, (∀ e : Exp, e.size ≤ m → e.size < 2^26 → ofExpOK e) ∧ (∀ l : Dec, l.size ≤ m → l.size < 2^26 → ofDecOK l) := by
 intro m
 induction m with
 | zero =>
   refine ⟨fun e h _ => ?_, fun l h _ => ?_⟩
   ·obtain ⟨k, a, nm, n, l, lb, c, cb, d, db⟩ := e
    simp only [Exp.size] at h; omega
   ·obtain ⟨k, a, nm, p, l, nb, c, cb, f, fb⟩ := l; simp only [Dec.size] at h; omega
 | succ m ih =>
   obtain ⟨ihE, ihD⟩ := ih
   have hcase1 : ∀ t : Case, t.size ≤ m + 1 → t.size < 2^26 → ofCaseOK t := fun t h h' => by
    obtain ⟨p, e⟩ := t
    exact QbV p e (ihE e (by simp only [Case.size] at h; omega) (by simp only [Case.size] at h'; omega)) (by omega)
   have hcase : ∀ (c : List Case), Case.sizes c ≤ m + 1 → Case.sizes c < 2^26 → ∀ t ∈ c, ofCaseOK t := fun c h h' t ht => by
    have := Case.mem_sizes ht
    exact hcase1 t (by omega) (by omega)
   refine ⟨fun e h h' s => ?_, fun d h h' inn s => ?_⟩
   ·obtain ⟨k, a, nm, n, l, lb, c, cb, d, db⟩ := e
    simp only [Exp.size] at h h'
    have hl := Exp.len_sizes l
    have hl2 := Case.len_sizes c
    have hl3 := Dec.len_sizes d
    have := Q46 (.mk k a nm n l lb c cb d db) (by simp only [Exp.decs]; omega) (by simp only [Exp.kids]; omega) (by simp only [Exp.cases]; omega) (fun t ht => by have := Exp.mem_sizes ht; simp only [Exp.kids] at this; exact ihE t (by omega) (by omega)) (hcase c (by omega) (by omega)) s d [] [.exp (.mk k a nm n l lb c cb d db)] (.full [(TNode.exp (.mk k a nm n l lb c cb d db)).enc]) s 0 (AccR.full _ _ _) rfl rfl (fun t ht => ihD t (by have := Dec.mem_sizes ht; omega) (by have := Dec.mem_sizes ht; omega)) (by simp only [List.length_singleton, Exp.kids, Exp.cases]; omega)
    rw [QcV]; simp only [go_sem, Nat.reduceAdd, Nat.reduceLeDiff, Exp.enc, TNode.cells, Dec.zero, Exp.zero, Pat.zero, Fun.zero, Case.zero, Con.zero, Ty.zero, Con.cells, TNode.enc, nodesExp, Exp.at_, Exp.kids, Exp.cases] at this ⊢
    exact this
   ·obtain ⟨k, a, nm, p, l, nb, c, cb, f, fb⟩ := d
    simp only [Dec.size] at h h'
    have hl := Con.len_sizes l
    have hl2 := Case.len_sizes c
    have hl3 := Fun.len_sizes f
    have := Q44 (.mk k a nm p l nb c cb f fb) (by simp only [Dec.case]; omega) (by simp only [Dec.funs]; omega) (by simp only [Dec.cons]; omega) (fun t ht => by
     have h2 := Fun.mem_sizes ht
     obtain ⟨nm, a, c'⟩ := t
     simp only [Dec.funs, Fun.size] at h2
     exact hcase1 c' (by omega) (by omega)) s c [] [.dec inn (.mk k a nm p l nb c cb f fb)] (.full [(TNode.dec inn (.mk k a nm p l nb c cb f fb)).enc]) s 0 (AccR.full _ _ _) rfl rfl (hcase c (by omega) (by omega)) (by simp only [List.length_singleton, Dec.funs, Dec.cons]; omega)
    rw [QcU]; simp only [go_sem, Nat.reduceAdd, Nat.reduceLeDiff, Dec.enc, TNode.cells, Dec.zero, Exp.zero, Pat.zero, Fun.zero, Case.zero, Con.zero, Ty.zero, Con.cells, TNode.enc, nodesDec, Dec.at_, Dec.funs, Dec.cons] at this ⊢
    exact this
theorem QaY (e : Exp) (s : St) (h : e.size < 2^26) : Nodes (cw (.f Zk) [e.enc] s) s (nodesExp e) := (Q9y e.size).1 e (Nat.le_refl _) h s
theorem Q8I (L : List Dec) (z : Slot) (hz : z.list? = some (L.map Dec.enc)) (hl : L.length < 2^40) (s0 : St) : ∀ (suf pre : List Dec) (A : List TNode) (x : Slot) (s : St) (i : Nat), NAcc s0 s x A → pre ++ suf = L → i = pre.length → A.length + Dec.sizes suf < 2^26 →
  Nodes (Q2T z x (.val (.int .i64 i)) s) s0 (A ++ nodesDecs false suf)
 | [], pre, A, x, s, i, hx, h, hi, hb => by
   subst hi
   rw [Q7I]; simp only [go_sem, hz, Q8 (by simpa using h), nodesDecs]
   exact RetA.mk hx
 | u :: suf, pre, A, x, s, i, hx, h, hi, hb => by
   subst hi
   obtain ⟨f1, f2, f3⟩ := Q6 hz h (by omega) (Dec.cells_len u) (by decide)
   simp only [Dec.sizes] at hb
   obtain ⟨y, s1, e1, g1⟩ := (Q9y u.size).2 u (Nat.le_refl _) (by omega) false s
   have hlen := Q5X false u
   obtain ⟨x', s2, e2, g2⟩ := nacc (hx.move g1.grew) g1.list? (by omega)
   have := Q8I L z hz hl s0 suf (pre ++ [u]) (A ++ nodesDec false u) x' s2 (pre.length + 1) g2 (by simpa using h) (by simp) (by rw [List.length_append]; omega)
   rw [Q7I]; simp only [go_sem, Nat.reduceLeDiff, hz, f1, f2, f3, e1, e2, nodesDecs] at this ⊢
   exact this
theorem Q8J (l : List Dec) (nl : Bool) (s : St) (h : Dec.sizes l < 2^26) : Nodes (cw (.f Q3u) [encS nl (l.map Dec.enc)] s) s (nodesDecs false l) := by
 have hl := Dec.len_sizes l
 have := Q8I l (.val (encS nl (l.map Dec.enc))) (by simp only [go_sem]) (by omega) s l [] [] (.val .nils) s 0 (AccR.nil _ _) rfl rfl (by simp only [List.length_nil]; omega)
 rw [Qg7]
 exact this
end Go.Proofs.YtinphnakebeloaaGreat
namespace Go.Proofs.YtinphnakebeloaaGreat
open Go Go.Am
set_option linter.unusedVariables false
set_option maxRecDepth 4000
theorem Q3e (L : List TNode) (z : Slot) (hz : z.list? = some (L.map TNode.enc)) (hl : L.length < 2^40) : ∀ (suf pre : List TNode) (n : Nat) (s : St) (i : Nat), pre ++ suf = L → i = pre.length → n + suf.length < 2^40 →
  Q0m z (.val (.int .i64 n)) (.val (.int .i64 i)) s = some (.ret (.val (.int .i64 (n + countN suf : Nat))), s)
 | [], pre, n, s, i, h, hi, hb => by
   subst hi
   rw [Q5g]; simp only [go_sem, hz, Q8 (by simpa using h)]; rfl
 | u :: suf, pre, n, s, i, h, hi, hb => by
   subst hi
   obtain ⟨f1, f2, f3⟩ := Q6 hz h (by omega) (TNode.cells_len u) (by decide)
   have hw : IntKind.i64.wrap ((n : Int) + 1) = ((n + 1 : Nat) : Int) := by rw [wrap64 (by omega) (by omega)]; rfl
   simp only [List.length_cons] at hb
   rw [TNode.enc, Qdh, TNode.cells_3] at f2
   have h1 := Q3e L z hz hl suf (pre ++ [u]) n s (pre.length + 1) (by simpa using h) (by simp) (by omega)
   have h2 := Q3e L z hz hl suf (pre ++ [u]) (n + 1) s (pre.length + 1) (by simpa using h) (by simp) (by omega)
   rw [Q5g]; simp only [go_sem, hz, f1, f2, f3, TNode.what_isNode, hw, h1, h2]
   cases hu : u.isNode
   ·have e : countN (u :: suf) = countN suf := by simp [countN, hu]
    simp only [go_sem, e]
   ·have e : countN (u :: suf) = countN suf + 1 := by simp [countN, hu]
    simp only [go_sem, e]
    rw [show n + 1 + countN suf = n + (countN suf + 1) by omega]
theorem Q6a (l : List TNode) (v : AV) (hv : (Slot.val v).list? = some (l.map TNode.enc)) (s : St) (h : l.length < 2^39) : cw (.f Q1P) [v] s = some (.ret (.val (.int .i64 (countN l))), s) := by
 rw [Qd0]
 have := Q3e l (.val v) hv (by omega) l [] 0 s 0 rfl rfl (by omega)
 rw [Nat.zero_add] at this
 exact this
theorem Q6b (L : List TNode) (z : Slot) (hz : z.list? = some (L.map TNode.enc)) (hl : L.length < 2^40) : ∀ (suf pre : List TNode) (s : St) (i : Nat), pre ++ suf = L → i = pre.length → (∀ n ∈ suf, n.ok) →
  Q1t z [.val (.int .i64 0), .val (.int .i64 0), .val (.str [])] (.val (.int .i64 i)) s = some (.ret (.val (firstBad suf).enc), s)
 | [], pre, s, i, h, hi, H => by
   subst hi
   rw [Q5j]; simp only [go_sem, Nat.reduceAdd, Nat.reduceLeDiff, hz, Q8 (by simpa using h)]; rfl
 | u :: suf, pre, s, i, h, hi, H => by
   subst hi
   obtain ⟨f1, f2, f3⟩ := Q6 hz h (by omega) (TNode.cells_len u) (by decide)
   obtain ⟨nm, e1, e2⟩ := Qb7 u s (H u (List.mem_cons_self))
   have ih := Q6b L z hz hl suf (pre ++ [u]) s (pre.length + 1) (by simpa using h) (by simp) (fun w hw => H w (List.mem_cons_of_mem _ hw))
   have f2' := f2
   rw [TNode.enc, Qdh, TNode.cells_3] at f2'
   have hj : ∀ (e : Int) (nm : Str), Q1s z [.val (.int .i64 0), .val (.int .i64 0), .val (.str [])] (.val (.int .i64 pre.length)) (.val (.int .i64 e)) (.val (.str nm)) s = some (.ret (.val (TBad.mk e u.at_ nm).enc), s) := fun e nm => by
    rw [Qa0]; simp only [go_sem, Nat.reduceAdd, Nat.reduceLeDiff, f2']; rfl
   rw [Q5j]; simp only [go_sem, Nat.reduceAdd, Nat.reduceLeDiff, hz, f1, f2, f3, e1, ih, hj]
   by_cases h0 : u.wrong.1 = 0
   ·simp only [go_sem, Int.reduceEq, h0, firstBad, TNode.bad, mkBad, TBad.zero]
   ·have hk : decide (u.bad.kind = 0) = false := by simp [TNode.bad, mkBad, h0]
    by_cases h8 : u.wrong.1 = 8
    ·have := e2 h8
     subst this
     simp only [go_sem, Int.reduceEq, h8, firstBad, hk]
     simp only [TNode.bad, h8]; rfl
    ·simp only [go_sem, decide_eq_false h0, decide_eq_false h8, firstBad, hk]
     simp only [TNode.bad, mkBad, decide_eq_false h0, decide_eq_false h8]; rfl
theorem Q6c (l : List TNode) (v : AV) (hv : (Slot.val v).list? = some (l.map TNode.enc)) (deep : Int) (s : St) (h : l.length < 2^39) (H : ∀ n ∈ l, n.ok) : cw (.f Q0z) [v, .int .i64 deep] s = some (.ret (.val (rightN l deep).enc), s) := by
 have h1 := Q6a l v hv s h
 have h2 := Q6b l (.val v) hv (by omega) l [] s 0 rfl rfl H
 rw [show ((0 : Nat) : Int) = 0 from rfl] at h2
 rw [Qd3]; simp only [go_sem, Nat.reduceAdd, Nat.reduceLeDiff, h1, h2]
 have e : decide ((countN l : Int) > 8192) = decide (countN l > 8192) := by simp only [gt_iff_lt]; congr 1; rw [eq_iff_iff]; omega
 rw [e]
 unfold rightN
 cases decide (countN l > 8192) <;> cases decide (deep > 100) <;> rfl
theorem QaZ (l : List Dec) (nl : Bool) (s : St) (h : Dec.sizes l < 2^26) (H : ∀ n ∈ nodesDecs false l, n.ok) : Ret (cw (.f Q4X) [encS nl (l.map Dec.enc)] s) s (rightN (nodesDecs false l) (deepDecs l 0)).enc := by
 obtain ⟨x, s1, e1, g1⟩ := Q8J l nl s h
 have hlen := Q1S false l
 obtain ⟨b, hb⟩ := g1.av
 have h2 := QbT l nl s1 (by omega)
 have h3 := Q6c (nodesDecs false l) (encS b ((nodesDecs false l).map TNode.enc)) (by simp only [go_sem]) (deepDecs l 0) s1 (by omega) H
 rw [QcX]; simp only [go_sem, e1, h2, Qh hb, h3]
 exact Ret.mk g1.grew
theorem Q8T (t : Exp) (s : St) (h : t.size < 2^26) (H : ∀ n ∈ nodesExp t, n.ok) : Ret (cw (.f Q3b) [t.enc] s) s (rightN (nodesExp t) (deepExp t)).enc := by
 obtain ⟨x, s1, e1, g1⟩ := QaY t s h
 have hlen := Q1i t
 obtain ⟨b, hb⟩ := g1.av
 have h2 := Q9x t s1 (by omega)
 have h3 := Q6c (nodesExp t) (encS b ((nodesExp t).map TNode.enc)) (by simp only [go_sem]) (deepExp t) s1 (by omega) H
 rw [Q9Z]; simp only [go_sem, Nat.reduceLeDiff, e1, h2, Qh hb, h3]
 exact Ret.mk g1.grew
theorem QbW (l : List Dec) (nl : Bool) (s : St) (h : Dec.sizes l < 2^26) : Ret (cw (.f Q5M) [encS nl (l.map Dec.enc)] s) s (.int .i64 (countN (nodesDecs false l))) := by
 obtain ⟨x, s1, e1, g1⟩ := Q8J l nl s h
 have hlen := Q1S false l
 obtain ⟨b, hb⟩ := g1.av
 have h3 := Q6a (nodesDecs false l) (encS b ((nodesDecs false l).map TNode.enc)) (by simp only [go_sem]) s1 (by omega)
 rw [Qe4]; simp only [go_sem, e1, Qh hb, h3]
 exact Ret.mk g1.grew
end Go.Proofs.YtinphnakebeloaaGreat
namespace Go.Proofs.YtinphnakebeloaaGreat
open Go Go.Am
set_option linter.unusedVariables false
set_option maxRecDepth 4000
theorem Q8C {inn : Bool} : ∀ {P : List Dec} {d : Dec}, d ∈ P → .dec inn d ∈ nodesDecs inn P
 | d :: P, e, h => by
   simp only [nodesDecs]
   rcases List.mem_cons.1 h with rfl | h
   ·cases e; simp only [nodesDec]; exact List.mem_append_left _ List.mem_cons_self
   ·exact List.mem_append_right _ (Q8C h)
theorem QhK {P : List Dec} (hs : Dec.sizes P < 2^24) (h : rightN (nodesDecs false P) (deepDecs P 0) = .zero) : ∀ d ∈ P, DecFit d := by
 intro d hd
 have hw : wrongDecB d false = 0 := Q4F h _ (Q8C hd)
 have D := QeJ hw
 have hsz := Dec.mem_sizes hd
 constructor
 ·by_cases h3 : d.kind = 3
  ·have := (D.data h3).2.2.2.1; omega
  ·have := (D.bare h3).1; omega
 ·intro c hc
  have h1 := Con.mem_sizes hc
  have h2 : Con.sizes d.cons ≤ d.size := by
   cases d; simp only [Dec.size, Dec.cons]; omega
  refine Q6A _ ?_
  simp only [Con.size] at h1
  omega
theorem Qes (P : List Dec) (nl : Bool) (hs : Dec.sizes P < 2^24) (hok : ∀ n ∈ nodesDecs false P, n.ok) (s : St) : Ret (cw (.f Q0B) [encS nl (P.map Dec.enc)] s) s (checkD P).enc :=
 Qbc P nl hs (QhK hs) hok s
def fewB (P : List Dec) : Bool := decide ((P.length : Int) ≤ 12) && decide (((countN (nodesDecs false P) : Nat) : Int) ≤ 300)
theorem Q7D (P : List Dec) (nl : Bool) (hs : Dec.sizes P < 2^24) (s : St) : Ret (cw (.f Q4B) [encS nl (P.map Dec.enc)] s) s (.bool (fewB P)) := by
 obtain ⟨s1, e1, g1⟩ := QbW P nl s (by omega)
 rw [Qf5]
 unfold fewB
 by_cases h : (P.length : Int) ≤ 12
 ·refine ⟨s1, ?_, g1⟩
  simp only [go_sem, List.length_map, h, decide_true, e1, Bool.true_and]
 ·refine ⟨s, ?_, .refl s⟩
  simp only [go_sem, List.length_map, decide_eq_false h, Bool.false_and]
def valD (p : Pat) (e : Exp) : Dec := .mk 1 0 [] 0 [] true [.mk p e] false [] true
theorem Q4v (p : Pat) (e : Exp) (s : St) : cw (.f Q0Y) [p.enc, e.enc] s = some (.ret (.val (valD p e).enc), s) := by
 rw [Qf6]
 simp only [go_sem, Nat.reduceAdd, Nat.reduceLeDiff, Pat.enc, Exp.enc, Pat.cells_eq, Exp.cells_eq, valD, Dec.enc, Dec.cells_mk, List.map_cons, List.map_nil, Q5A, Q5W, Case.enc, Case.cells_mk, List.cons_append, List.nil_append]
theorem Q8M (l m : List Str) (x y : Slot) (hx : x.list? = some (l.map .str)) (hy : y.list? = some (m.map .str)) (hl : l.length < 2^40) (he : l.length = m.length) (s : St) : ∀ (suf suf' pre pre' : List Str) (i : Nat), pre ++ suf = l → pre' ++ suf' = m → i = pre.length → pre'.length = pre.length →
  Q1Y x y (.val (.int .i64 i)) s = some (.ret (.val (.bool (decide (suf = suf')))), s)
 | [], suf', pre, pre', i, hp, hp', hi, hi' => by
   subst hi
   have : suf' = [] := by
    have h1 : l.length = pre.length := by rw [← hp]; simp
    have h2 : m.length = pre'.length + suf'.length := by rw [← hp']; simp
    exact List.eq_nil_of_length_eq_zero (by omega)
   subst this
   rw [Q6g]; simp only [go_sem, hx, List.length_map, Q8 (show pre = l by simpa using hp), decide_true]
 | k :: suf, [], pre, pre', i, hp, hp', hi, hi' => by
   have h1 : l.length = pre.length + (suf.length + 1) := by rw [← hp]; simp
   have h2 : m.length = pre'.length := by rw [← hp']; simp
   omega
 | k :: suf, k' :: suf', pre, pre', i, hp, hp', hi, hi' => by
   subst hi
   obtain ⟨f1, f2, f3⟩ := Q6 hx hp (by omega) (sz := 1) rfl (by decide)
   obtain ⟨f4, f5, f6⟩ := Q6 hy hp' (by omega) (sz := 1) rfl (by decide)
   rw [hi'] at f5
   have ih := Q8M l m x y hx hy hl he s suf suf' (pre ++ [k]) (pre' ++ [k']) (pre.length + 1) (by simpa using hp) (by simpa using hp') (by simp) (by simp [hi'])
   rw [Q6g]
   by_cases e : k = k'
   ·subst e
    simp only [go_sem, Nat.reduceAdd, Nat.reduceLeDiff, hx, List.length_map, f1, f2, f3, f5, decide_true, Bool.not_true, ih, List.cons.injEq, true_and]
   ·have : ¬ (k :: suf = k' :: suf') := fun h => e (List.cons.inj h).1
    simp only [go_sem, Nat.reduceAdd, Nat.reduceLeDiff, hx, List.length_map, f1, f2, f3, f5, decide_eq_false e, Bool.not_false, decide_eq_false this]
theorem Q2i (l m : List Str) (v w : AV) (hv : (Slot.val v).list? = some (l.map .str)) (hw : (Slot.val w).list? = some (m.map .str)) (hl : l.length < 2^40) (s : St) : cw (.f Q0r) [v, w] s = some (.ret (.val (.bool (decide (l = m)))), s) := by
 rw [Qe9]
 by_cases he : l.length = m.length
 ·have e1 := Q8M l m (.val v) (.val w) hv hw hl he s l m [] [] 0 rfl rfl rfl rfl
  rw [show ((0 : Nat) : Int) = 0 from rfl] at e1
  have he' : decide ((l.length : Int) = (m.length : Int)) = true := by simp only [decide_eq_true_eq]; omega
  simp only [go_sem, hv, hw, List.length_map, he', Bool.not_true, e1]
 ·have he' : decide ((l.length : Int) = (m.length : Int)) = false := by simp only [decide_eq_false_iff_not]; omega
  have : ¬ (l = m) := fun h => he (by rw [h])
  simp only [go_sem, hv, hw, List.length_map, he', Bool.not_false, decide_eq_false this]
def kx : Str := [120]
def kpx : Pat := .mk 2 0 kx 0 [] true
def kv : Exp := .mk 2 8 kx 0 [] true [] true [] true
def kint : Exp := .mk 1 0 [] 0 [] true [] true [] true
theorem kc1 : checkD [valD kpx kv] = ⟨16, 8, kx⟩ := by decide +kernel
theorem kc2 : checkD [valD kpx kint, valD kpx kv] = .zero := by decide +kernel
theorem kc3 : freeD kv = [kx] := by decide +kernel
theorem kc4 : bindsD (valD kpx kv) = [kx] := by decide +kernel
theorem kok {P : List Dec} (h : (nodesDecs false P).all (fun n => match n with | .dec _ d => decide (d.name.length < 2^40) | .exp e => decide (e.name.length < 2^40) && decide (e.kids.length < 2^40) && decide (-9223372036854775808 ≤ e.n) && decide (e.n ≤ 9223372036854775807) | .pat p => decide (p.name.length < 2^40) && decide (-9223372036854775808 ≤ p.n) && decide (p.n ≤ 9223372036854775807) | .ty t _ => decide (t.name.length < 2^40) | .fn f => decide (f.name.length < 2^40) | .con c => decide (c.name.length < 2^40)) = true) : ∀ n ∈ nodesDecs false P, n.ok := by
 intro n hn
 have := List.all_eq_true.1 h n hn
 cases n <;> simp only [TNode.ok, Bool.and_eq_true, decide_eq_true_eq] at this ⊢ <;> first | exact this | exact ⟨this.1.1.1, this.1.1.2, this.1.2, this.2⟩ | exact ⟨this.1.1, this.1.2, this.2⟩
theorem Q3d (s : St) : Ret (cw (.f Q33) [] s) s (.bool true) := by
 have v1 := fun s => Q4v kpx kv s
 have v2 := fun s => Q4v kpx kint s
 obtain ⟨s1, e1, g1⟩ := Qes [valD kpx kv] false (by decide +kernel) (kok (by decide +kernel)) s
 obtain ⟨s2, e2, g2⟩ := Qes [valD kpx kint, valD kpx kv] false (by decide +kernel) (kok (by decide +kernel)) s1
 obtain ⟨x3, s3, w3, e3, a3, l3, g3⟩ := Q6X kv (by decide +kernel) (by
  intro n hn
  simp only [kv, nodesExp, nodesExps, nodesCases, nodesDecs, List.nil_append, List.append_nil, List.mem_cons, List.not_mem_nil, or_false] at hn
  subst hn
  simp [TNode.ok, Exp.name, Exp.kids, Exp.n, kx]) s2
 obtain ⟨x4, s4, w4, e4, a4, l4, g4⟩ := Q6k (valD kpx kv) (by decide +kernel) (kok (by decide +kernel)) s3
 rw [kc1] at e1
 rw [kc2] at e2
 rw [kc3] at l3
 rw [kc4] at l4
 have r3 := fun s => Q2i [kx] [kx] w3 (.sl [.str kx]) l3 rfl (by decide) s
 have r4 := fun s => Q2i [kx] [kx] w4 (.sl [.str kx]) l4 rfl (by decide) s
 refine ⟨s4, ?_, ((g1.trans g2).trans g3).trans g4⟩
 simp only [decide_true] at r3 r4
 simp only [valD, kpx, kv, kint, kx, List.map_cons, List.map_nil, Q5A, Q5W, ZT, Pat.enc, Pat.cells_mk, Exp.enc, Exp.cells_mk, Dec.enc, Dec.cells_mk, Case.enc, Case.cells_mk, List.cons_append, List.nil_append, TBad.enc, TBad.cells, TBad.zero] at v1 v2 e1 e2 e3 e4 r3 r4
 rw [QcP]
 simp only [go_sem, Nat.reduceAdd, Nat.reduceLeDiff, v1, v2, e1, e2, e3, e4, r3, r4, Qh a3, Qh a4]
end Go.Proofs.YtinphnakebeloaaGreat
namespace Go.Proofs.YtinphnakebeloaaGreat
open Go Go.Am
set_option linter.unusedVariables false
set_option maxRecDepth 4000
theorem Q6U (t : Pat) (hl : t.kids.length < 2^40) (s0 : St) : ∀ (suf pre : List Pat) (A : List Str) (x : Slot) (s : St) (i : Nat), AccR Q2 s0 s x (A.map .str) → pre ++ suf = t.kids → i = pre.length → (∀ t ∈ suf, ∀ s, RetA (cw (.f Zw) [t.enc] s) Q2 s ((varsPat t).map .str)) → A.length + Pat.sizes suf < 2^30 →
  RetA (Q1X (t.cells.map .val) x (.val (.int .i64 i)) s) Q2 s0 ((A ++ varsPats suf).map .str)
 | [], pre, A, x, s, i, hA, h, hi, H, hb => by
   subst hi
   rw [Q69]; simp only [go_sem, Nat.reduceAdd, Nat.reduceLeDiff, Pat.cells_eq, Q8 (by simpa using h), varsPats, List.append_nil]
   exact RetA.mk hA
 | u :: suf, pre, A, x, s, i, hA, h, hi, H, hb => by
   subst hi
   obtain ⟨f1, f2, f3⟩ := Q6 (x := .val (encS t.kb (t.kids.map Pat.enc))) (Q9 _ _) h (by omega) (Pat.cells_len u) (by decide)
   obtain ⟨y, s1, e1, g1⟩ := H u (List.mem_cons_self) s
   have hlen := Q0e u
   simp only [Pat.sizes] at hb
   obtain ⟨x', s2, e2, g2⟩ := AccR.appendF (t := C.ti Q2) (f := AV.str) (hA.move g1.grew) g1.list? (fun _ => rfl) (by decide) (by omega) (by decide +kernel)
   have := Q6U t hl s0 suf (pre ++ [u]) (A ++ varsPat u) x' s2 (pre.length + 1) g2 (by simpa using h) (by simp) (fun w hw => H w (List.mem_cons_of_mem _ hw)) (by rw [List.length_append]; omega)
   rw [Q69]; rw [Pat.cells_eq] at this ⊢; simp only [go_sem, Nat.reduceAdd, Nat.reduceLeDiff, f1, f2, f3, e1, e2] at this ⊢
   simp only [varsPats, List.map_append, List.append_assoc] at this ⊢
   exact this
theorem Q2h : ∀ (m : Nat) (t : Pat) (s : St), t.size ≤ m → t.size < 2^28 → RetA (cw (.f Zw) [t.enc] s) Q2 s ((varsPat t).map .str)
 | 0, .mk _ _ _ _ _ _, _, h, _ => by simp only [Pat.size] at h; omega
 | m + 1, .mk k a nm n l nl, s, h, h' => by
   simp only [Pat.size] at h h'
   have hl := Pat.len_sizes l
   have hj : ∀ (A : List Str) (x : Slot) (s1 : St), AccR Q2 s s1 x (A.map .str) → A.length ≤ 1 → RetA (Q1W ((Pat.mk k a nm n l nl).cells.map .val) x s1) Q2 s ((A ++ varsPats l).map .str) := fun A x s1 hA h1 => by
    rw [Qb0]
    exact Q6U (.mk k a nm n l nl) (by simp only [Pat.kids]; omega) s l [] A x s1 0 hA rfl rfl (fun u hu s => by have := Pat.mem_sizes hu; exact Q2h m u s (by omega) (by omega)) (by omega)
   have hvs : varsPat (.mk k a nm n l nl) = (bif decide (k = 2) || decide (k = 6) then [nm] else []) ++ varsPats l := by simp only [varsPat]; rfl
   rw [Qe5, hvs]
   cases hv : decide (k = 2) || decide (k = 6) with
   | false =>
     have h1 := hj [] (.val .nils) s (AccR.nil _ s) (by simp)
     rw [cond_false]
     simp only [go_sem, Nat.reduceAdd, Pat.enc, hv] at h1 ⊢
     exact h1
   | true =>
     obtain ⟨x', s1, e1, g1⟩ := AccR.appendF (t := C.ti Q2) (f := AV.str) (A := []) (B := [nm]) (y := .full [.str nm]) (AccR.nil Q2 s) rfl (fun _ => rfl) (by decide) (by simp) (by decide +kernel)
     have h1 := hj [nm] x' s1 g1 (by simp)
     rw [cond_true]
     simp only [go_sem, Nat.reduceAdd, Pat.enc, hv, e1] at h1 ⊢
     exact h1
end Go.Proofs.YtinphnakebeloaaGreat
namespace Go.Am
open Go
@[go_sem] theorem Qsv (b : Bool) (sz : Nat) (x : Slot) (r : List Slot) : gd b (fullO (bslS sz (gdV b x :: r))) = gd b (fullO (bslS sz (x :: r))) := by cases b <;> rfl
end Go.Am
namespace Go.Proofs.YtinphnakebeloaaGreat
open Go Go.Am
set_option linter.unusedVariables false
set_option maxRecDepth 4000
end Go.Proofs.YtinphnakebeloaaGreat
namespace Go.Proofs.YtinphnakebeloaaGreat
open Go Go.Am
set_option linter.unusedVariables false
def ownP (p : Place) : Place := { p with ty := ownTy p.ty }
def dataR (data : Str) (t : List Place) : List Place := (t.filter fun p => decide (p.data = data)).map ownP
def givenR (nm : Str) : Bool := decide (nm = sInt) || decide (nm = sBool) || decide (nm = sUnit) || decide (nm = sExn) || decide (nm = sRef) || decide (nm = sArrow) || decide (nm = sStar)
def dtR (t : List Place) (nm : Str) : Int × Bool := bif givenR nm then (0, false) else match dataR nm t with
 | [] => (0, false)
 | p :: _ => (p.vars, true)
def wrongR1 (t : List Place) (d : Dec) (u : Ty) : Int × Bool := bif decide (d.kind = 3) && decide (u.name = d.name) then (d.params, true) else dtR t u.name
def wrongR (t : List Place) (d : Dec) (u : Ty) : Int × Str :=
 bif decide (u.kind = 1) then (bif !decide (d.kind = 3) || decide (u.n ≥ d.params) then (16, []) else (0, []))
 else bif givenR u.name then (0, []) else bif !(wrongR1 t d u).2 then (8, u.name) else bif !decide ((u.args.length : Int) = (wrongR1 t d u).1) then (19, u.name) else (0, [])
def firstW (t : List Place) (d : Dec) : List Ty → Int × Str
 | [] => (0, [])
 | u :: l => if (wrongR t d u).1 ≠ 0 then wrongR t d u else firstW t d l
def resR (d : Dec) : Ty := bif decide (d.kind = 4) then ofTy sExn [] else .mk 2 0 d.name (bif decide (d.kind = 3) then varsTy d.params.toNat else []) true
def placeR (t : List Place) (d : Dec) (i : Nat) (c : Con) : Place :=
 ⟨c.name, bif decide (d.kind = 4) then sExn else d.name, bif decide (d.kind = 4) then (exns t : Nat) else (i : Int), bif decide (d.kind = 4) then 0 else (d.cons.length : Int), c.has, bif decide (d.kind = 4) then 0 else d.params, bif c.has then fnTy c.arg (resR d) else resR d⟩
end Go.Proofs.YtinphnakebeloaaGreat
namespace Go.Proofs.YtinphnakebeloaaGreat
open Go Go.Am
set_option linter.unusedVariables false
set_option maxRecDepth 4000
def TabFit (t : List Place) : Prop := t.length < 2^26 ∧ ∀ p ∈ t, p.ty.size < 2^27
theorem TabFit.wide {t : List Place} (h : TabFit t) : ∀ p ∈ t, WideTy p.ty := fun p hp => Q6A _ (by have := h.2 p hp; omega)
end Go.Proofs.YtinphnakebeloaaGreat
namespace Go.Proofs.YtinphnakebeloaaGreat
open Go Go.Am
set_option linter.unusedVariables false
set_option maxRecDepth 4000
section
variable (t : List Place) (d : Dec) (v : AV) (s0 : St)
theorem TabFit.own {t : List Place} (h : TabFit t) : TabFit (t.map ownP) := ⟨by rw [List.length_map]; exact h.1, fun p hp => by
 obtain ⟨q, hq, rfl⟩ := List.mem_map.1 hp
 simp only [ownP, QbL]; exact h.2 q hq⟩
end
end Go.Proofs.YtinphnakebeloaaGreat
namespace Go.Proofs.YtinphnakebeloaaGreat
open Go Go.Am
set_option linter.unusedVariables false
def conR (t : List Place) (nm : Str) (a k : Int) : TBad := match findD nm t with
 | none => ⟨17, a, nm⟩
 | some p => if p.has ≠ decide (k = 1) then ⟨19, a, nm⟩ else .zero
def thenB (a b : TBad) : TBad := bif decide (a.kind = 0) then b else a
theorem Q8l {a : TBad} (h : a.kind = 0) (b : TBad) : thenB a b = b := by unfold thenB; rw [decide_eq_true h]; rfl
theorem Q76 {a : TBad} (h : a.kind ≠ 0) (b : TBad) : thenB a b = a := by unfold thenB; rw [decide_eq_false h]; rfl
def namesR (d : Dec) : List Str := bif decide (d.kind = 1) && decide ((d.case.length : Int) = 1) then varsCases d.case else bif decide (d.kind = 2) then d.funs.map Fun.name else []
section
variable (t : List Place)
mutual
def patR : Pat → List Str → TBad × List Str
 | .mk k a nm _ l _, names =>
   bif (decide (k = 2) || decide (k = 6)) && decide (nm ∈ names) then (⟨9, a, nm⟩, names)
   else bif decide (k = 4) && !decide ((conR t nm a l.length).kind = 0) then (conR t nm a l.length, names)
   else patsR l (bif decide (k = 2) || decide (k = 6) then names ++ [nm] else names)
def patsR : List Pat → List Str → TBad × List Str
 | [], names => (.zero, names)
 | p :: l, names => bif decide ((patR p names).1.kind = 0) then patsR l (patR p names).2 else ((patR p names).1, names)
end
mutual
def oneR : Case → List Str → TBad
 | .mk p e, bd => thenB (patR t p []).1 (expR e (bd ++ (patR t p []).2))
def expR : Exp → List Str → TBad
 | .mk k a nm _ l _ c _ d _, bd =>
   bif decide (k = 2) && !decide (nm ∈ bd) then ⟨16, a, nm⟩
   else bif decide (k = 3) && !decide ((conR t nm a l.length).kind = 0) then conR t nm a l.length
   else thenB (decsR d bd) (thenB (expsR l (bd ++ d.flatMap namesR)) (onesR c (bd ++ d.flatMap namesR)))
def expsR : List Exp → List Str → TBad
 | [], _ => .zero
 | e :: l, bd => thenB (expR e bd) (expsR l bd)
def onesR : List Case → List Str → TBad
 | [], _ => .zero
 | c :: l, bd => thenB (oneR c bd) (onesR l bd)
def decsR : List Dec → List Str → TBad
 | [], _ => .zero
 | d :: r, bd => thenB (decR d bd) (decsR r (bd ++ namesR d))
def decR : Dec → List Str → TBad
 | .mk k a s p l lb c cb f fb, bd => bif decide (k = 1) then valR c bd else funsR f (bd ++ namesR (.mk k a s p l lb c cb f fb)) []
def valR : List Case → List Str → TBad
 | [], _ => .zero
 | .mk p e :: _, bd => thenB (patR t p []).1 (expR e bd)
def funsR : List Fun → List Str → List Str → TBad
 | [], _, _ => .zero
 | .mk nm a c :: r, bd, had => bif decide (nm ∈ had) then ⟨9, a, nm⟩ else thenB (oneR c bd) (funsR r bd (had ++ [nm]))
end
end
mutual
def freeR : Exp → List Str → List Str → List Str
 | .mk k _ nm _ l _ c _ d _, bd, found => freeCases c (freeDecs d bd (bif decide (k = 2) && !decide (nm ∈ bd) && !decide (nm ∈ found) then found ++ [nm] else found)).1 (freeExps l (freeDecs d bd (bif decide (k = 2) && !decide (nm ∈ bd) && !decide (nm ∈ found) then found ++ [nm] else found)).1 (freeDecs d bd (bif decide (k = 2) && !decide (nm ∈ bd) && !decide (nm ∈ found) then found ++ [nm] else found)).2)
def freeExps : List Exp → List Str → List Str → List Str
 | [], _, found => found
 | e :: l, bd, found => freeExps l bd (freeR e bd found)
def freeCases : List Case → List Str → List Str → List Str
 | [], _, found => found
 | .mk p e :: l, bd, found => freeCases l bd (freeR e (bd ++ varsPat p) found)
def freeDecs : List Dec → List Str → List Str → List Str × List Str
 | [], bd, found => (bd, found)
 | .mk k a s p l lb c cb f fb :: r, bd, found => freeDecs r (bd ++ namesR (.mk k a s p l lb c cb f fb)) (freeFuns f (bd ++ namesR (.mk k a s p l lb c cb f fb)) (bif decide (k = 1) then freeVal c bd found else found))
def freeVal : List Case → List Str → List Str → List Str
 | [], _, found => found
 | .mk _ e :: _, bd, found => freeR e bd found
def freeFuns : List Fun → List Str → List Str → List Str
 | [], _, found => found
 | .mk _ _ c :: r, bd, found => freeFuns r bd (freeCase c bd found)
def freeCase : Case → List Str → List Str → List Str
 | .mk p e, bd, found => freeR e (bd ++ varsPat p) found
end
end Go.Proofs.YtinphnakebeloaaGreat
namespace Go.Proofs.YtinphnakebeloaaGreat
open Go Go.Am
set_option linter.unusedVariables false
set_option maxRecDepth 4000
theorem Q6V (b : TBad) (s : St) : cw (.f Q3v) [b.enc] s = some (.ret (.val (.bool (decide (b.kind = 0)))), s) := by
 rw [Qeb]; simp only [go_sem, Nat.reduceAdd, TBad.enc, TBad.cells, List.map_cons, List.map_nil]
theorem Q8L (nm : Str) (l : List Str) (y : Slot) (hy : y.list? = some (l.map .str)) (hl : l.length < 2^40) (s : St) : ∀ (suf pre : List Str) (i : Nat), pre ++ suf = l → i = pre.length →
  Q2U y (.val (.str nm)) (.val (.int .i64 i)) s = some (.ret (.val (.bool (decide (nm ∈ suf)))), s)
 | [], pre, i, hp, hi => by
   subst hi
   rw [Q7L]; simp only [go_sem, hy, List.length_map, Q8 (show pre = l by simpa using hp)]
   simp
 | k :: suf, pre, i, hp, hi => by
   subst hi
   obtain ⟨f1, f2, f3⟩ := Q6 hy hp (by omega) (sz := 1) rfl (by decide)
   have ih := Q8L nm l y hy hl s suf (pre ++ [k]) (pre.length + 1) (by simpa using hp) (by simp)
   rw [Q7L]
   by_cases e : k = nm
   ·subst e
    simp only [go_sem, Nat.reduceAdd, Nat.reduceLeDiff, hy, List.length_map, f1, f2, f3, decide_true]
    simp
   ·have : decide (nm ∈ k :: suf) = decide (nm ∈ suf) := by
     rw [decide_eq_decide]; simp [Ne.symm e]
    rw [this]
    simp only [go_sem, Nat.reduceAdd, Nat.reduceLeDiff, hy, List.length_map, f1, f2, f3, decide_eq_false e, ih]
theorem Q51 (nm : Str) (l : List Str) (v : AV) (hv : (Slot.val v).list? = some (l.map .str)) (hl : l.length < 2^40) (s : St) : cw (.f Q2t) [v, .str nm] s = some (.ret (.val (.bool (decide (nm ∈ l)))), s) := by
 have := Q8L nm l (.val v) hv hl s l [] 0 rfl rfl
 rw [show ((0 : Nat) : Int) = 0 from rfl] at this
 rw [Qga]; exact this
theorem Q3a (a b : List Str) (v w : AV) (hv : (Slot.val v).list? = some (a.map .str)) (hw : (Slot.val w).list? = some (b.map .str)) (hl : a.length + b.length < 2^29) (s : St) : RetL (cw (.f Q2u) [v, w] s) s (a ++ b) := by
 obtain ⟨x1, s1, e1, a1⟩ := AccR.appendF (f := AV.str) (A := []) (B := a) (AccR.full Q2 s []) hv (fun _ => by rw [Z7]; rfl) (by rw [Z7]; decide) (by simp only [List.length_nil]; omega) (by rw [Q1d]; decide)
 obtain ⟨x2, s2, e2, a2⟩ := AccR.appendF (f := AV.str) (A := [] ++ a) (B := b) a1 hw (fun _ => by rw [Z7]; rfl) (by rw [Z7]; decide) (by simp only [List.nil_append]; omega) (by rw [Q1d]; decide)
 obtain ⟨nl, hav⟩ := a2.av
 refine ⟨x2, s2, _, ?_, hav, by simpa using Q9 nl _, a2.grew⟩
 rw [Qgb]
 simp only [go_sem, e1, e2]
theorem Q6e (d : Dec) (hl : d.funs.length < 2^28) (hk : d.kind = 2) (s0 : St) : ∀ (suf pre : List Fun) (x : Slot) (s : St) (i : Nat), AccR Q2 s0 s x ((pre.map Fun.name).map .str) → pre ++ suf = d.funs → i = pre.length →
  RetA (Q0p (d.cells.map .val) x (.val (.int .i64 i)) s) Q2 s0 ((d.funs.map Fun.name).map .str)
 | [], pre, x, s, i, a, hp, hi => by
   subst hi
   have hpt : pre = d.funs := by simpa using hp
   have hend := Q8 hpt
   refine ⟨x, s, ?_, by rw [← hpt]; exact a⟩
   rw [Q2L]
   simp only [go_sem, Nat.reduceAdd, Nat.reduceLeDiff, Dec.cells_eq, List.map_cons, List.map_nil, List.length_map, hk, decide_true, hend]
 | .mk nm at_ c :: suf, pre, x, s, i, a, hp, hi => by
   subst hi
   obtain ⟨f1, f2, f3⟩ := Q6 (x := .val (encS d.fb (d.funs.map Fun.enc))) (Q9 _ _) hp (by omega) (Fun.cells_len (.mk nm at_ c)) (by decide)
   have hlt : pre.length < d.funs.length := by rw [← hp]; simp
   obtain ⟨x2, s2, e2, a2⟩ := AccR.appendF (f := AV.str) (B := [nm]) (t := C.ti Q2) (y := .full [.str nm]) a rfl (fun _ => by rw [Z7]; rfl) (by rw [Z7]; decide) (by simp only [List.length_map, List.length_singleton]; omega) (by rw [Q1d]; decide)
   have ih := Q6e d hl hk s0 suf (pre ++ [.mk nm at_ c]) x2 s2 (pre.length + 1) (by rw [List.map_append]; exact a2) (by simpa using hp) (by simp)
   revert ih
   generalize (d.funs.map Fun.name).map AV.str = L
   intro ih
   rw [Q2L]
   simp only [go_sem, Nat.reduceAdd, Nat.reduceLeDiff, Dec.cells_eq, List.map_cons, List.map_nil, List.length_map, hk, decide_true, f1, f2, f3, e2] at ih ⊢
   exact ih
theorem Q6f (d : Dec) (hd : d.size < 2^26) (s : St) : RetA (cw (.f Q0A) [d.enc] s) Q2 s ((namesR d).map .str) := by
 have hsz : d.case.length < 2^26 ∧ d.funs.length < 2^26 ∧ Case.sizes d.case < 2^26 := by
  cases d with
  | mk k a nm p l lb c cb f fb =>
    have h1 := Case.len_sizes c
    have h2 := Fun.len_sizes f
    simp only [Dec.size, Dec.case, Dec.funs] at *
    omega
 have hnot : ∀ x s1, d.kind ≠ 2 → Q0o (d.cells.map .val) x s1 = some (.ret x, s1) := fun x s1 h2 => by
  rw [Q5l, Q2L]
  simp only [go_sem, Int.reduceAdd, Nat.reduceAdd, Nat.reduceLeDiff, Dec.cells_eq, List.map_cons, List.map_nil, decide_eq_false h2, Bool.false_and]
 simp only [Dec.cells_eq, List.map_cons, List.map_nil] at hnot
 rw [Qd7]
 unfold namesR
 by_cases h1 : d.kind = 1
 ·have h2 : d.kind ≠ 2 := by omega
  have hn := fun x s1 => hnot x s1 h2
  cases hc : d.case with
  | nil =>
    refine ⟨.full [], s, ?_, ?_⟩
    ·simp only [h1, hc, List.map_cons, List.map_nil, ZT] at hn
     simp only [go_sem, Int.reduceEq, Nat.reduceAdd, Dec.enc, Dec.cells_eq, List.map_cons, List.map_nil, h1, decide_true, hc, List.length_nil, Int.natCast_zero, Int.reduceEq, decide_false, Q9, hn]
    ·simp [h1]; exact AccR.full _ _ _
  | cons q r =>
    cases q with
    | mk p e =>
    cases r with
    | nil =>
      have hps : p.size < 2^28 := by
       have := hsz.2.2
       rw [hc] at this
       simp only [Case.sizes, Case.size] at this
       omega
      obtain ⟨x1, s1, e1, a1⟩ := Q2h _ p s (Nat.le_refl _) hps
      have hix : ixS 12 (.val (.sl [(Case.mk p e).enc])) (.val (.int .i64 0)) = some (.val (.cp (Case.mk p e).cells)) := Q7C (n := 0) (v := (Case.mk p e).enc) rfl rfl (Case.cells_len _) (by decide)
      refine ⟨x1, s1, ?_, ?_⟩
      ·simp only [h1, hc, List.map_cons, List.map_nil, ZT] at hn
       simp only [Pat.enc, Pat.cells_eq] at e1
       simp only [go_sem, Nat.reduceAdd, Dec.enc, Dec.cells_eq, List.map_cons, List.map_nil, h1, decide_true, hc, List.length_cons, List.length_nil, ZT, hix, Case.cells_mk, Pat.cells_eq, e1, hn, show decide (((1 : Nat) : Int) = 1) = true from rfl]
      ·simpa [h1, varsCases] using a1
    | cons q2 r2 =>
      have hne : decide (((r2.length + 1 + 1 : Nat) : Int) = 1) = false := by simp only [decide_eq_false_iff_not]; omega
      refine ⟨.full [], s, ?_, ?_⟩
      ·simp only [h1, hc, List.map_cons, List.map_nil, ZT] at hn
       simp only [go_sem, Nat.reduceAdd, Dec.enc, Dec.cells_eq, List.map_cons, List.map_nil, h1, decide_true, hc, List.length_cons, List.length_map, ZT, hne, hn]
      ·have : (decide (d.kind = 1) && decide ((((Case.mk p e :: q2 :: r2).length : Nat) : Int) = 1)) = false := by
        simp only [List.length_cons, hne, Bool.and_false]
       simp only [h1, decide_true, List.length_cons, hne, Bool.and_false, cond_false, Int.reduceEq, decide_false, List.map_nil]
       exact AccR.full _ _ _
 ·rw [decide_eq_false h1, Bool.false_and, cond_false]
  by_cases h2 : d.kind = 2
  ·have e1 := Q6e d (by omega) h2 s d.funs [] (.full []) s 0 (AccR.full _ _ _) rfl rfl
   rw [show ((0 : Nat) : Int) = 0 from rfl] at e1
   rw [decide_eq_true h2, cond_true]
   have hj : Q0o (d.cells.map .val) (.full []) s = Q0p (d.cells.map .val) (.full []) (.val (.int .i64 0)) s := by rw [Q5l]
   simp only [Dec.cells_eq, List.map_cons, List.map_nil, h2] at hj e1
   revert e1
   generalize (d.funs.map Fun.name).map AV.str = L
   intro e1
   simp only [go_sem, Int.reduceEq, Nat.reduceAdd, Dec.enc, Dec.cells_eq, List.map_cons, List.map_nil, decide_eq_false h1, Bool.false_and, h2, Int.reduceEq, decide_false, hj]
   exact e1
  ·rw [decide_eq_false h2]
   refine ⟨.full [], s, ?_, AccR.full _ _ _⟩
   simp only [go_sem, Nat.reduceAdd, Dec.enc, Dec.cells_eq, List.map_cons, List.map_nil, decide_eq_false h1, Bool.false_and, hnot _ _ h2]
theorem QbI (d : Dec) : (namesR d).length ≤ d.size := by
 have h1 : (varsCases d.case).length ≤ d.size := by
  have := Q54 d.case
  cases d; simp only [Dec.size, Dec.case] at *; omega
 have h2 : (d.funs.map Fun.name).length ≤ d.size := by
  have := Fun.len_sizes d.funs
  cases d; simp only [Dec.size, Dec.funs, List.length_map] at *; omega
 unfold namesR
 cases (decide (d.kind = 1) && decide ((d.case.length : Int) = 1)) with
 | true => exact h1
 | false => cases decide (d.kind = 2) with
   | true => exact h2
   | false => simp
mutual
theorem QiW (t : List Place) : ∀ (p : Pat) (names : List Str), (patR t p names).2.length ≤ names.length + p.size
 | .mk k a nm n l b, names => by
   have h := Qdy t l (bif decide (k = 2) || decide (k = 6) then names ++ [nm] else names)
   simp only [patR, Pat.size]
   cases (decide (k = 2) || decide (k = 6)) && decide (nm ∈ names) with
   | true => simp
   | false =>
     simp only [cond_false]
     cases decide (k = 4) && !decide ((conR t nm a l.length).kind = 0) with
     | true => simp
     | false =>
       simp only [cond_false]
       cases hx : (decide (k = 2) || decide (k = 6)) with
       | true => rw [hx] at h; simp only [cond_true, List.length_append, List.length_cons, List.length_nil] at h ⊢; omega
       | false => rw [hx] at h; simp only [cond_false] at h ⊢; omega
theorem Qdy (t : List Place) : ∀ (l : List Pat) (names : List Str), (patsR t l names).2.length ≤ names.length + Pat.sizes l
 | [], names => by simp [patsR]
 | p :: l, names => by
   have h1 := QiW t p names
   have h2 := Qdy t l (patR t p names).2
   simp only [patsR, Pat.sizes]
   cases decide ((patR t p names).1.kind = 0) with
   | true => simp only [cond_true]; omega
   | false => simp
end
section
variable (t : List Place) (tv : AV)
variable (h : TabFit t) (hv : (Slot.val tv).list? = some (t.map Place.enc))
include h hv
end
end Go.Proofs.YtinphnakebeloaaGreat
namespace Go.Proofs.YtinphnakebeloaaGreat
open Go Go.Am
set_option linter.unusedVariables false
def RN (l : List TNode) : Prop := ∀ n ∈ l, n.wrong.1 = 0
theorem RN.l {a b : List TNode} (h : RN (a ++ b)) : RN a := fun n hn => h n (List.mem_append_left _ hn)
theorem RN.r {a b : List TNode} (h : RN (a ++ b)) : RN b := fun n hn => h n (List.mem_append_right _ hn)
theorem RN.t {x : TNode} {a : List TNode} (h : RN (x :: a)) : RN a := fun n hn => h n (List.mem_cons_of_mem _ hn)
theorem RN.exps : ∀ {l : List Exp}, RN (nodesExps l) → ∀ e ∈ l, RN (nodesExp e)
 | x :: l, h, e, he => by
   simp only [nodesExps] at h
   rcases List.mem_cons.1 he with rfl | he
   ·exact h.l
   ·exact h.r.exps e he
theorem RN.cases : ∀ {l : List Case}, RN (nodesCases l) → ∀ e ∈ l, RN (nodesCase e)
 | x :: l, h, e, he => by
   simp only [nodesCases] at h
   rcases List.mem_cons.1 he with rfl | he
   ·exact h.l
   ·exact h.r.cases e he
theorem RN.decs {i : Bool} : ∀ {l : List Dec}, RN (nodesDecs i l) → ∀ e ∈ l, RN (nodesDec i e)
 | x :: l, h, e, he => by
   simp only [nodesDecs] at h
   rcases List.mem_cons.1 he with rfl | he
   ·exact h.l
   ·exact h.r.decs e he
theorem RN.funs : ∀ {l : List Fun}, RN (nodesFuns l) → ∀ e ∈ l, RN (nodesCase e.case)
 | x :: l, h, e, he => by
   simp only [nodesFuns] at h
   rcases List.mem_cons.1 he with rfl | he
   ·cases e; simp only [nodesFun] at h; exact h.l.t
   ·exact h.r.funs e he
theorem Q9R {i : Bool} {d : Dec} (h : RN (nodesDec i d)) : (d.kind = 1 → d.case.length = 1) ∧ (d.kind ≠ 1 → d.kind = 2 ∨ d.funs = []) := by
 have hw : wrongDecB d i = 0 := by
  cases d; simp only [nodesDec] at h; exact h _ List.mem_cons_self
 have D := QeJ hw
 refine ⟨fun hk => ?_, fun hk => ?_⟩
 ·have := (D.val hk).1; omega
 ·rcases D.kind with h1 | h1 | h1 | h1
  ·exact absurd h1 hk
  ·exact .inl h1
  ·exact .inr (len0 (D.data h1).2.1)
  ·exact .inr (len0 (D.exn h1).2.1)
end Go.Proofs.YtinphnakebeloaaGreat