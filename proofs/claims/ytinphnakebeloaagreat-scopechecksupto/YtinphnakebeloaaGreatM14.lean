/- A part of the proof: SRef5, SRef6, SLaw12, SRef7, SRef8, SRefT1, PRef11, SRef11. -/
import Derived.Test.YtinphnakebeloaaGreatM6
import Derived.Test.YtinphnakebeloaaGreatM7
import Derived.Test.YtinphnakebeloaaGreatM8
import Derived.Test.YtinphnakebeloaaGreatM9
import Derived.Test.YtinphnakebeloaaGreatM10
import Derived.Test.YtinphnakebeloaaGreatM12
import Derived.Test.YtinphnakebeloaaGreatM13
set_option linter.unusedVariables false
set_option linter.unusedSimpArgs false
namespace Go.Proofs.YtinphnakebeloaaGreat
open Go Go.Am
set_option linter.unusedVariables false
set_option maxRecDepth 4000
abbrev Nodes (r : Res) (s : St) (l : List TNode) : Prop := RetA r Qd s (l.map TNode.enc)
abbrev NAcc (s0 s : St) (x : Slot) (l : List TNode) : Prop := AccR Qd s0 s x (l.map TNode.enc)
theorem nacc {s0 s : St} {x y : Slot} {A B : List TNode} (h : NAcc s0 s x A) (hy : y.list? = some (B.map TNode.enc)) (b : A.length + B.length < 2^30) : ∃ x' s', appendS Qd (C.ti Qd) s x y = some (x', s') ∧ NAcc s0 s' x' (A ++ B) :=
 AccR.appendF h hy (fun a => by rw [Q5Q]; exact TNode.cells_len a) (by rw [Q5Q]; decide) b (by rw [Qa4]; decide)
theorem Q7J (a : Int) (t : Ty) (hl : t.args.length < 2^40) (s0 : St) : ∀ (suf pre : List Ty) (A : List TNode) (x : Slot) (s : St) (i : Nat), NAcc s0 s x A → pre ++ suf = t.args → i = pre.length → (∀ t ∈ suf, ∀ s, Nodes (cw (.f ZX) [t.enc, .int .i64 a] s) s (nodesTy a t)) → A.length + Ty.sizes suf < 2^30 →
  Nodes (Q2e (.val (.int .i64 a)) (t.cells.map .val) x (.val (.int .i64 i)) s) s0 (A ++ nodesTys a suf)
 | [], pre, A, x, s, i, hx, h, hi, H, hb => by
   subst hi
   rw [Q70]; simp only [go_sem, Nat.reduceAdd, Nat.reduceLeDiff, Ty.cells_eq, Q9 (by simpa using h), nodesTys]
   exact RetA.mk hx
 | u :: suf, pre, A, x, s, i, hx, h, hi, H, hb => by
   subst hi
   obtain ⟨f1, f2, f3⟩ := Q7 (x := .val (encS t.nl (t.args.map Ty.enc))) (Qb _ _) h (by omega) (Ty.cells_len u) (by decide)
   obtain ⟨y, s1, e1, g1⟩ := H u (List.mem_cons_self) s
   have hlen := Q5k a u
   simp only [Ty.sizes] at hb
   obtain ⟨x', s2, e2, g2⟩ := nacc (hx.move g1.grew) g1.list? (by omega)
   have := Q7J a t hl s0 suf (pre ++ [u]) (A ++ nodesTy a u) x' s2 (pre.length + 1) g2 (by simpa using h) (by simp) (fun w hw => H w (List.mem_cons_of_mem _ hw)) (by rw [List.length_append]; omega)
   rw [Q70]; rw [Ty.cells_eq] at this ⊢; simp only [go_sem, Nat.reduceAdd, Nat.reduceLeDiff, f1, f2, f3, e1, e2] at this ⊢
   simp only [nodesTys]
   exact this
theorem Q4g : ∀ (m : Nat) (a : Int) (t : Ty) (s : St), t.size ≤ m → t.size < 2^28 → Nodes (cw (.f ZX) [t.enc, .int .i64 a] s) s (nodesTy a t)
 | 0, a, .mk _ _ _ _ _, _, h, _ => by simp only [Ty.size] at h; omega
 | m + 1, a, .mk k n nm l nl, s, h, h' => by
   simp only [Ty.size] at h h'
   have hl := Ty.len_sizes l
   have := Q7J a (.mk k n nm l nl) (by simp only [Ty.args]; omega) s l [] [.ty (.mk k n nm l nl) a] (.full [(TNode.ty (.mk k n nm l nl) a).enc]) s 0 (AccR.full _ _ _) rfl rfl (fun u hu s => by have := Ty.mem_sizes hu; exact Q4g m a u s (by omega) (by omega)) (by simp only [List.length_singleton]; omega)
   rw [Qft]; simp only [go_sem, Nat.reduceAdd, Nat.reduceLeDiff, Ty.enc, TNode.cells, Dec.zero, Exp.zero, Pat.zero, Fun.zero, Case.zero, Con.zero, Ty.zero, Con.cells, TNode.enc, nodesTy] at this ⊢
   exact this
theorem Q6Y (t : Pat) (hl : t.kids.length < 2^40) (s0 : St) : ∀ (suf pre : List Pat) (A : List TNode) (x : Slot) (s : St) (i : Nat), NAcc s0 s x A → pre ++ suf = t.kids → i = pre.length → (∀ t ∈ suf, ∀ s, Nodes (cw (.f Q0I) [t.enc] s) s (nodesPat t)) → A.length + Pat.sizes suf < 2^30 →
  Nodes (Q1y (t.cells.map .val) x (.val (.int .i64 i)) s) s0 (A ++ nodesPats suf)
 | [], pre, A, x, s, i, hx, h, hi, H, hb => by
   subst hi
   rw [Q5Z]; simp only [go_sem, Nat.reduceAdd, Nat.reduceLeDiff, Pat.cells_eq, Q9 (by simpa using h), nodesPats]
   exact RetA.mk hx
 | u :: suf, pre, A, x, s, i, hx, h, hi, H, hb => by
   subst hi
   obtain ⟨f1, f2, f3⟩ := Q7 (x := .val (encS t.kb (t.kids.map Pat.enc))) (Qb _ _) h (by omega) (Pat.cells_len u) (by decide)
   obtain ⟨y, s1, e1, g1⟩ := H u (List.mem_cons_self) s
   have hlen := Q4d u
   simp only [Pat.sizes] at hb
   obtain ⟨x', s2, e2, g2⟩ := nacc (hx.move g1.grew) g1.list? (by omega)
   have := Q6Y t hl s0 suf (pre ++ [u]) (A ++ nodesPat u) x' s2 (pre.length + 1) g2 (by simpa using h) (by simp) (fun w hw => H w (List.mem_cons_of_mem _ hw)) (by rw [List.length_append]; omega)
   rw [Q5Z]; rw [Pat.cells_eq] at this ⊢; simp only [go_sem, Nat.reduceAdd, Nat.reduceLeDiff, f1, f2, f3, e1, e2] at this ⊢
   simp only [nodesPats]
   exact this
theorem Q6Z : ∀ (m : Nat) (t : Pat) (s : St), t.size ≤ m → t.size < 2^28 → Nodes (cw (.f Q0I) [t.enc] s) s (nodesPat t)
 | 0, .mk _ _ _ _ _ _, _, h, _ => by simp only [Pat.size] at h; omega
 | m + 1, .mk k a nm n l nl, s, h, h' => by
   simp only [Pat.size] at h h'
   have hl := Pat.len_sizes l
   have := Q6Y (.mk k a nm n l nl) (by simp only [Pat.kids]; omega) s l [] [.pat (.mk k a nm n l nl)] (.full [(TNode.pat (.mk k a nm n l nl)).enc]) s 0 (AccR.full _ _ _) rfl rfl (fun u hu s => by have := Pat.mem_sizes hu; exact Q6Z m u s (by omega) (by omega)) (by simp only [List.length_singleton]; omega)
   rw [Qeb]; simp only [go_sem, Nat.reduceAdd, Nat.reduceLeDiff, Pat.enc, TNode.cells, Dec.zero, Exp.zero, Pat.zero, Fun.zero, Case.zero, Con.zero, Ty.zero, Con.cells, TNode.enc, nodesPat, Pat.at_] at this ⊢
   exact this
def ofExpOK (t : Exp) : Prop := ∀ s, Nodes (cw (.f Q06) [t.enc] s) s (nodesExp t)
def ofCaseOK (t : Case) : Prop := ∀ s, Nodes (cw (.f Q1g) [t.enc] s) s (nodesCase t)
def ofDecOK (t : Dec) : Prop := ∀ inn s, Nodes (cw (.f Q05) [t.enc, .bool inn] s) s (nodesDec inn t)
theorem Qd0 (p : Pat) (e : Exp) (h : ofExpOK e) (hs : (Case.mk p e).size < 2^28) : ofCaseOK (.mk p e) := fun s => by
 simp only [Case.size] at hs
 obtain ⟨y, s1, e1, g1⟩ := Q6Z _ p s (Nat.le_refl _) (by omega)
 obtain ⟨z, s2, e2, g2⟩ := h s1
 have h1 := Q4d p
 have h2 := Q2L e
 obtain ⟨x', s3, e3, g3⟩ := nacc (g1.move g2.grew) g2.list? (by omega)
 rw [QcZ]; simp only [go_sem, Nat.reduceAdd, Nat.reduceLeDiff, Nat.reduceSub, e1, e2, e3]
 simp only [nodesCase]
 exact RetA.mk g3
theorem Q4I (t : Exp) (hl : t.cases.length < 2^40) (s0 : St) : ∀ (suf pre : List Case) (A : List TNode) (x : Slot) (s : St) (i : Nat), NAcc s0 s x A → pre ++ suf = t.cases → i = pre.length → (∀ t ∈ suf, ofCaseOK t) → A.length + Case.sizes suf < 2^30 →
  Nodes (Q1x (t.cells.map .val) x (.val (.int .i64 i)) s) s0 (A ++ nodesCases suf)
 | [], pre, A, x, s, i, hx, h, hi, H, hb => by
   subst hi
   rw [Q5Y]; simp only [go_sem, Exp.cells_eq, Q9 (by simpa using h), nodesCases]
   exact RetA.mk hx
 | u :: suf, pre, A, x, s, i, hx, h, hi, H, hb => by
   subst hi
   obtain ⟨f1, f2, f3⟩ := Q7 (x := .val (encS t.cb (t.cases.map Case.enc))) (Qb _ _) h (by omega) (Case.cells_len u) (by decide)
   obtain ⟨y, s1, e1, g1⟩ := H u (List.mem_cons_self) s
   have hlen := Q2a u
   simp only [Case.sizes] at hb
   obtain ⟨x', s2, e2, g2⟩ := nacc (hx.move g1.grew) g1.list? (by omega)
   have := Q4I t hl s0 suf (pre ++ [u]) (A ++ nodesCase u) x' s2 (pre.length + 1) g2 (by simpa using h) (by simp) (fun w hw => H w (List.mem_cons_of_mem _ hw)) (by rw [List.length_append]; omega)
   rw [Q5Y]; rw [Exp.cells_eq] at this ⊢; simp only [go_sem, Nat.reduceLeDiff, f1, f2, f3, e1, e2] at this ⊢
   simp only [nodesCases]
   exact this
theorem Q4H (t : Exp) (hl : t.kids.length < 2^40) (hl2 : t.cases.length < 2^40) (Hc : ∀ c ∈ t.cases, ofCaseOK c) (s0 : St) : ∀ (suf pre : List Exp) (A : List TNode) (x : Slot) (s : St) (i : Nat), NAcc s0 s x A → pre ++ suf = t.kids → i = pre.length → (∀ t ∈ suf, ofExpOK t) → A.length + Exp.sizes suf + Case.sizes t.cases < 2^30 →
  Nodes (Q1w (t.cells.map .val) x (.val (.int .i64 i)) s) s0 (A ++ (nodesExps suf ++ nodesCases t.cases))
 | [], pre, A, x, s, i, hx, h, hi, H, hb => by
   subst hi
   have := Q4I t hl2 s0 t.cases [] A x s 0 hx rfl rfl Hc (by omega)
   rw [Q5X]; rw [Exp.cells_eq] at this ⊢; simp only [go_sem, Q9 (by simpa using h), nodesExps] at this ⊢
   exact this
 | u :: suf, pre, A, x, s, i, hx, h, hi, H, hb => by
   subst hi
   obtain ⟨f1, f2, f3⟩ := Q7 (x := .val (encS t.kb (t.kids.map Exp.enc))) (Qb _ _) h (by omega) (Exp.cells_len u) (by decide)
   obtain ⟨y, s1, e1, g1⟩ := H u (List.mem_cons_self) s
   have hlen := Q2L u
   simp only [Exp.sizes] at hb
   obtain ⟨x', s2, e2, g2⟩ := nacc (hx.move g1.grew) g1.list? (by omega)
   have := Q4H t hl hl2 Hc s0 suf (pre ++ [u]) (A ++ nodesExp u) x' s2 (pre.length + 1) g2 (by simpa using h) (by simp) (fun w hw => H w (List.mem_cons_of_mem _ hw)) (by rw [List.length_append]; omega)
   rw [Q5X]; rw [Exp.cells_eq] at this ⊢; simp only [go_sem, Nat.reduceLeDiff, f1, f2, f3, e1, e2] at this ⊢
   simp only [go_sem, nodesExps]
   exact this
theorem Q4G (t : Exp) (hl0 : t.decs.length < 2^40) (hl : t.kids.length < 2^40) (hl2 : t.cases.length < 2^40) (He : ∀ c ∈ t.kids, ofExpOK c) (Hc : ∀ c ∈ t.cases, ofCaseOK c) (s0 : St) : ∀ (suf pre : List Dec) (A : List TNode) (x : Slot) (s : St) (i : Nat), NAcc s0 s x A → pre ++ suf = t.decs → i = pre.length → (∀ t ∈ suf, ofDecOK t) → A.length + Dec.sizes suf + Exp.sizes t.kids + Case.sizes t.cases < 2^30 →
  Nodes (Q1v (t.cells.map .val) x (.val (.int .i64 i)) s) s0 (A ++ (nodesDecs true suf ++ (nodesExps t.kids ++ nodesCases t.cases)))
 | [], pre, A, x, s, i, hx, h, hi, H, hb => by
   subst hi
   have := Q4H t hl hl2 Hc s0 t.kids [] A x s 0 hx rfl rfl He (by omega)
   rw [Q5W]; rw [Exp.cells_eq] at this ⊢; simp only [go_sem, Nat.reduceAdd, Nat.reduceLeDiff, Q9 (by simpa using h), nodesDecs] at this ⊢
   exact this
 | u :: suf, pre, A, x, s, i, hx, h, hi, H, hb => by
   subst hi
   obtain ⟨f1, f2, f3⟩ := Q7 (x := .val (encS t.db (t.decs.map Dec.enc))) (Qb _ _) h (by omega) (Dec.cells_len u) (by decide)
   obtain ⟨y, s1, e1, g1⟩ := H u (List.mem_cons_self) true s
   have hlen := Q6Q true u
   simp only [Dec.sizes] at hb
   obtain ⟨x', s2, e2, g2⟩ := nacc (hx.move g1.grew) g1.list? (by omega)
   have := Q4G t hl0 hl hl2 He Hc s0 suf (pre ++ [u]) (A ++ nodesDec true u) x' s2 (pre.length + 1) g2 (by simpa using h) (by simp) (fun w hw => H w (List.mem_cons_of_mem _ hw)) (by rw [List.length_append]; omega)
   rw [Q5W]; rw [Exp.cells_eq] at this ⊢; simp only [go_sem, Nat.reduceAdd, Nat.reduceLeDiff, f1, f2, f3, e1, e2] at this ⊢
   simp only [go_sem, nodesDecs]
   exact this
theorem Q2w (t : Dec) (hl : t.cons.length < 2^40) (s0 : St) : ∀ (suf pre : List Con) (A : List TNode) (x : Slot) (s : St) (i : Nat), NAcc s0 s x A → pre ++ suf = t.cons → i = pre.length → A.length + Con.sizes suf < 2^28 →
  Nodes (Q0t (t.cells.map .val) x (.val (.int .i64 i)) s) s0 (A ++ nodesCons suf)
 | [], pre, A, x, s, i, hx, h, hi, hb => by
   subst hi
   rw [Q3c]; simp only [go_sem, Nat.reduceAdd, Nat.reduceLeDiff, Dec.cells_eq, Q9 (by simpa using h), nodesCons]
   exact RetA.mk hx
 | .mk nm a hs arg :: suf, pre, A, x, s, i, hx, h, hi, hb => by
   subst hi
   obtain ⟨f1, f2, f3⟩ := Q7 (x := .val (encS t.nb (t.cons.map Con.enc))) (Qb _ _) h (by omega) (Con.cells_len ⟨nm, a, hs, arg⟩) (by decide)
   have hlen := Q5k a arg
   simp only [Con.sizes, Con.size] at hb
   obtain ⟨x', s2, e2, g2⟩ := nacc (B := [.con ⟨nm, a, hs, arg⟩]) (y := .full [(TNode.con ⟨nm, a, hs, arg⟩).enc]) hx rfl (by simp only [List.length_singleton]; omega)
   cases hs with
   | false =>
     have := Q2w t hl s0 suf (pre ++ [⟨nm, a, false, arg⟩]) (A ++ [.con ⟨nm, a, false, arg⟩]) x' s2 (pre.length + 1) g2 (by simpa using h) (by simp) (by simp only [List.length_append, List.length_singleton]; omega)
     rw [Q3c]; rw [Dec.cells_eq] at this ⊢; simp only [go_sem, Nat.reduceAdd, Nat.reduceLeDiff, f1, f2, f3, TNode.cells, Dec.zero, Exp.zero, Pat.zero, Fun.zero, Case.zero, Con.zero, Ty.zero, Con.cells, TNode.enc] at e2 this ⊢
     simp only [go_sem, e2, nodesCons, nodesCon]
     exact this
   | true =>
     obtain ⟨y, s1, e1, g1⟩ := Q4g _ a arg s2 (Nat.le_refl _) (by omega)
     obtain ⟨x3, s3, e3, g3⟩ := nacc (g2.move g1.grew) g1.list? (by simp only [List.length_append, List.length_singleton]; omega)
     have := Q2w t hl s0 suf (pre ++ [⟨nm, a, true, arg⟩]) (A ++ [.con ⟨nm, a, true, arg⟩] ++ nodesTy a arg) x3 s3 (pre.length + 1) g3 (by simpa using h) (by simp) (by simp only [List.length_append, List.length_singleton]; omega)
     rw [Q3c]; rw [Dec.cells_eq] at this ⊢; simp only [go_sem, Nat.reduceAdd, Nat.reduceLeDiff, f1, f2, f3, TNode.cells, Dec.zero, Exp.zero, Pat.zero, Fun.zero, Case.zero, Con.zero, Ty.zero, Con.cells, TNode.enc] at e2 this ⊢
     simp only [go_sem, e2, e1, e3, nodesCons, nodesCon]
     exact this
theorem Q4F (t : Dec) (hl : t.funs.length < 2^40) (hl2 : t.cons.length < 2^40) (s0 : St) : ∀ (suf pre : List Fun) (A : List TNode) (x : Slot) (s : St) (i : Nat), NAcc s0 s x A → pre ++ suf = t.funs → i = pre.length → (∀ f ∈ suf, ofCaseOK f.case) → A.length + Fun.sizes suf + Con.sizes t.cons < 2^28 →
  Nodes (Q1u (t.cells.map .val) x (.val (.int .i64 i)) s) s0 (A ++ (nodesFuns suf ++ nodesCons t.cons))
 | [], pre, A, x, s, i, hx, h, hi, H, hb => by
   subst hi
   have := Q2w t hl2 s0 t.cons [] A x s 0 hx rfl rfl (by omega)
   rw [Q5V]; rw [Dec.cells_eq] at this ⊢; simp only [go_sem, Nat.reduceAdd, Nat.reduceLeDiff, Q9 (by simpa using h), nodesFuns] at this ⊢
   exact this
 | .mk nm a c :: suf, pre, A, x, s, i, hx, h, hi, H, hb => by
   subst hi
   obtain ⟨f1, f2, f3⟩ := Q7 (x := .val (encS t.fb (t.funs.map Fun.enc))) (Qb _ _) h (by omega) (Fun.cells_len (.mk nm a c)) (by decide)
   have hlen := Q2a c
   simp only [Fun.sizes, Fun.size] at hb
   obtain ⟨x', s2, e2, g2⟩ := nacc (B := [.fn (.mk nm a c)]) (y := .full [(TNode.fn (.mk nm a c)).enc]) hx rfl (by simp only [List.length_singleton]; omega)
   obtain ⟨y, s1, e1, g1⟩ := H (.mk nm a c) (List.mem_cons_self) s2
   simp only [Fun.case] at e1 g1
   obtain ⟨x3, s3, e3, g3⟩ := nacc (g2.move g1.grew) g1.list? (by simp only [List.length_append, List.length_singleton]; omega)
   have := Q4F t hl hl2 s0 suf (pre ++ [.mk nm a c]) (A ++ [.fn (.mk nm a c)] ++ nodesCase c) x3 s3 (pre.length + 1) g3 (by simpa using h) (by simp) (fun w hw => H w (List.mem_cons_of_mem _ hw)) (by simp only [List.length_append, List.length_singleton]; omega)
   rw [Q5V]; rw [Dec.cells_eq] at this ⊢; simp only [go_sem, Nat.reduceAdd, Nat.reduceLeDiff, f1, f2, f3, TNode.cells, Dec.zero, Exp.zero, Pat.zero, Fun.zero, Case.zero, Con.zero, Ty.zero, Con.cells, TNode.enc, Fun.at_] at e2 this ⊢
   simp only [go_sem, e2, e1, e3, nodesFuns, nodesFun]
   exact this
theorem Q4E (t : Dec) (hl0 : t.case.length < 2^40) (hl : t.funs.length < 2^40) (hl2 : t.cons.length < 2^40) (Hf : ∀ f ∈ t.funs, ofCaseOK f.case) (s0 : St) : ∀ (suf pre : List Case) (A : List TNode) (x : Slot) (s : St) (i : Nat), NAcc s0 s x A → pre ++ suf = t.case → i = pre.length → (∀ f ∈ suf, ofCaseOK f) → A.length + Case.sizes suf + Fun.sizes t.funs + Con.sizes t.cons < 2^28 →
  Nodes (Q1t (t.cells.map .val) x (.val (.int .i64 i)) s) s0 (A ++ (nodesCases suf ++ (nodesFuns t.funs ++ nodesCons t.cons)))
 | [], pre, A, x, s, i, hx, h, hi, H, hb => by
   subst hi
   have := Q4F t hl hl2 s0 t.funs [] A x s 0 hx rfl rfl Hf (by omega)
   rw [Q5U]; rw [Dec.cells_eq] at this ⊢; simp only [go_sem, Q9 (by simpa using h), nodesCases] at this ⊢
   exact this
 | u :: suf, pre, A, x, s, i, hx, h, hi, H, hb => by
   subst hi
   obtain ⟨f1, f2, f3⟩ := Q7 (x := .val (encS t.cb (t.case.map Case.enc))) (Qb _ _) h (by omega) (Case.cells_len u) (by decide)
   obtain ⟨y, s1, e1, g1⟩ := H u (List.mem_cons_self) s
   have hlen := Q2a u
   simp only [Case.sizes] at hb
   obtain ⟨x', s2, e2, g2⟩ := nacc (hx.move g1.grew) g1.list? (by omega)
   have := Q4E t hl0 hl hl2 Hf s0 suf (pre ++ [u]) (A ++ nodesCase u) x' s2 (pre.length + 1) g2 (by simpa using h) (by simp) (fun w hw => H w (List.mem_cons_of_mem _ hw)) (by rw [List.length_append]; omega)
   rw [Q5U]; rw [Dec.cells_eq] at this ⊢; simp only [go_sem, Nat.reduceLeDiff, f1, f2, f3, e1, e2] at this ⊢
   simp only [go_sem, nodesCases]
   exact this
theorem QgS : ∀ m : Nat, (∀ e : Exp, e.size ≤ m → e.size < 2^26 → ofExpOK e) ∧ (∀ l : Dec, l.size ≤ m → l.size < 2^26 → ofDecOK l) := by
 intro m
 induction m with
 | zero =>
   refine ⟨fun e h _ => ?_, fun l h _ => ?_⟩
   ·obtain ⟨k, a, nm, n, l, lb, c, cb, d, db⟩ := e
    simp only [Exp.size] at h; omega
   ·obtain ⟨k, a, nm, p, l, nb, c, cb, f, fb⟩ := l; simp only [Dec.size] at h; omega
 | succ m ih =>
   obtain ⟨ihE, ihD⟩ := ih
   have hcase1 : ∀ t : Case, t.size ≤ m + 1 → t.size < 2^26 → ofCaseOK t := fun t h h' => by
    obtain ⟨p, e⟩ := t
    exact Qd0 p e (ihE e (by simp only [Case.size] at h; omega) (by simp only [Case.size] at h'; omega)) (by omega)
   have hcase : ∀ (c : List Case), Case.sizes c ≤ m + 1 → Case.sizes c < 2^26 → ∀ t ∈ c, ofCaseOK t := fun c h h' t ht => by
    have := Case.mem_sizes ht
    exact hcase1 t (by omega) (by omega)
   refine ⟨fun e h h' s => ?_, fun d h h' inn s => ?_⟩
   ·obtain ⟨k, a, nm, n, l, lb, c, cb, d, db⟩ := e
    simp only [Exp.size] at h h'
    have hl := Exp.len_sizes l
    have hl2 := Case.len_sizes c
    have hl3 := Dec.len_sizes d
    have := Q4G (.mk k a nm n l lb c cb d db) (by simp only [Exp.decs]; omega) (by simp only [Exp.kids]; omega) (by simp only [Exp.cases]; omega) (fun t ht => by have := Exp.mem_sizes ht; simp only [Exp.kids] at this; exact ihE t (by omega) (by omega)) (hcase c (by omega) (by omega)) s d [] [.exp (.mk k a nm n l lb c cb d db)] (.full [(TNode.exp (.mk k a nm n l lb c cb d db)).enc]) s 0 (AccR.full _ _ _) rfl rfl (fun t ht => ihD t (by have := Dec.mem_sizes ht; omega) (by have := Dec.mem_sizes ht; omega)) (by simp only [List.length_singleton, Exp.kids, Exp.cases]; omega)
    rw [Qea]; simp only [go_sem, Nat.reduceAdd, Nat.reduceLeDiff, Exp.enc, TNode.cells, Dec.zero, Exp.zero, Pat.zero, Fun.zero, Case.zero, Con.zero, Ty.zero, Con.cells, TNode.enc, nodesExp, Exp.at_, Exp.kids, Exp.cases] at this ⊢
    exact this
   ·obtain ⟨k, a, nm, p, l, nb, c, cb, f, fb⟩ := d
    simp only [Dec.size] at h h'
    have hl := Con.len_sizes l
    have hl2 := Case.len_sizes c
    have hl3 := Fun.len_sizes f
    have := Q4E (.mk k a nm p l nb c cb f fb) (by simp only [Dec.case]; omega) (by simp only [Dec.funs]; omega) (by simp only [Dec.cons]; omega) (fun t ht => by
     have h2 := Fun.mem_sizes ht
     obtain ⟨nm, a, c'⟩ := t
     simp only [Dec.funs, Fun.size] at h2
     exact hcase1 c' (by omega) (by omega)) s c [] [.dec inn (.mk k a nm p l nb c cb f fb)] (.full [(TNode.dec inn (.mk k a nm p l nb c cb f fb)).enc]) s 0 (AccR.full _ _ _) rfl rfl (hcase c (by omega) (by omega)) (by simp only [List.length_singleton, Dec.funs, Dec.cons]; omega)
    rw [Qe9]; simp only [go_sem, Nat.reduceAdd, Nat.reduceLeDiff, Dec.enc, TNode.cells, Dec.zero, Exp.zero, Pat.zero, Fun.zero, Case.zero, Con.zero, Ty.zero, Con.cells, TNode.enc, nodesDec, Dec.at_, Dec.funs, Dec.cons] at this ⊢
    exact this
theorem Q9K (L : List Dec) (z : Slot) (hz : z.list? = some (L.map Dec.enc)) (hl : L.length < 2^40) (s0 : St) : ∀ (suf pre : List Dec) (A : List TNode) (x : Slot) (s : St) (i : Nat), NAcc s0 s x A → pre ++ suf = L → i = pre.length → A.length + Dec.sizes suf < 2^26 →
  Nodes (Q3m z x (.val (.int .i64 i)) s) s0 (A ++ nodesDecs false suf)
 | [], pre, A, x, s, i, hx, h, hi, hb => by
   subst hi
   rw [Q8I]; simp only [go_sem, hz, Q9 (by simpa using h), nodesDecs]
   exact RetA.mk hx
 | u :: suf, pre, A, x, s, i, hx, h, hi, hb => by
   subst hi
   obtain ⟨f1, f2, f3⟩ := Q7 hz h (by omega) (Dec.cells_len u) (by decide)
   simp only [Dec.sizes] at hb
   obtain ⟨y, s1, e1, g1⟩ := (QgS u.size).2 u (Nat.le_refl _) (by omega) false s
   have hlen := Q6Q false u
   obtain ⟨x', s2, e2, g2⟩ := nacc (hx.move g1.grew) g1.list? (by omega)
   have := Q9K L z hz hl s0 suf (pre ++ [u]) (A ++ nodesDec false u) x' s2 (pre.length + 1) g2 (by simpa using h) (by simp) (by rw [List.length_append]; omega)
   rw [Q8I]; simp only [go_sem, Nat.reduceLeDiff, hz, f1, f2, f3, e1, e2, nodesDecs] at this ⊢
   exact this
theorem Q9L (l : List Dec) (nl : Bool) (s : St) (h : Dec.sizes l < 2^26) : Nodes (cw (.f Q3X) [encS nl (l.map Dec.enc)] s) s (nodesDecs false l) := by
 have hl := Dec.len_sizes l
 have := Q9K l (.val (encS nl (l.map Dec.enc))) (by simp only [go_sem]) (by omega) s l [] [] (.val .nils) s 0 (AccR.nil _ _) rfl rfl (by simp only [List.length_nil]; omega)
 rw [QhK]
 exact this
end Go.Proofs.YtinphnakebeloaaGreat
namespace Go.Proofs.YtinphnakebeloaaGreat
open Go Go.Am
set_option linter.unusedVariables false
set_option maxRecDepth 4000
theorem Q3H (L : List TNode) (z : Slot) (hz : z.list? = some (L.map TNode.enc)) (hl : L.length < 2^40) : ∀ (suf pre : List TNode) (n : Nat) (s : St) (i : Nat), pre ++ suf = L → i = pre.length → n + suf.length < 2^40 →
  Q0u z (.val (.int .i64 n)) (.val (.int .i64 i)) s = some (.ret (.val (.int .i64 (n + countN suf : Nat))), s)
 | [], pre, n, s, i, h, hi, hb => by
   subst hi
   rw [Q61]; simp only [go_sem, hz, Q9 (by simpa using h)]; rfl
 | u :: suf, pre, n, s, i, h, hi, hb => by
   subst hi
   obtain ⟨f1, f2, f3⟩ := Q7 hz h (by omega) (TNode.cells_len u) (by decide)
   have hw : IntKind.i64.wrap ((n : Int) + 1) = ((n + 1 : Nat) : Int) := by rw [wrap64 (by omega) (by omega)]; rfl
   simp only [List.length_cons] at hb
   rw [TNode.enc, QeE, TNode.cells_3] at f2
   have h1 := Q3H L z hz hl suf (pre ++ [u]) n s (pre.length + 1) (by simpa using h) (by simp) (by omega)
   have h2 := Q3H L z hz hl suf (pre ++ [u]) (n + 1) s (pre.length + 1) (by simpa using h) (by simp) (by omega)
   rw [Q61]; simp only [go_sem, hz, f1, f2, f3, TNode.what_isNode, hw, h1, h2]
   cases hu : u.isNode
   ·have e : countN (u :: suf) = countN suf := by simp [countN, hu]
    simp only [go_sem, e]
   ·have e : countN (u :: suf) = countN suf + 1 := by simp [countN, hu]
    simp only [go_sem, e]
    rw [show n + 1 + countN suf = n + (countN suf + 1) by omega]
theorem Q72 (l : List TNode) (v : AV) (hv : (Slot.val v).list? = some (l.map TNode.enc)) (s : St) (h : l.length < 2^39) : cw (.f Q25) [v] s = some (.ret (.val (.int .i64 (countN l))), s) := by
 rw [Qef]
 have := Q3H l (.val v) hv (by omega) l [] 0 s 0 rfl rfl (by omega)
 rw [Nat.zero_add] at this
 exact this
theorem Q73 (L : List TNode) (z : Slot) (hz : z.list? = some (L.map TNode.enc)) (hl : L.length < 2^40) : ∀ (suf pre : List TNode) (s : St) (i : Nat), pre ++ suf = L → i = pre.length → (∀ n ∈ suf, n.ok) →
  Q1B z [.val (.int .i64 0), .val (.int .i64 0), .val (.str [])] (.val (.int .i64 i)) s = some (.ret (.val (firstBad suf).enc), s)
 | [], pre, s, i, h, hi, H => by
   subst hi
   rw [Q64]; simp only [go_sem, Nat.reduceAdd, Nat.reduceLeDiff, hz, Q9 (by simpa using h)]; rfl
 | u :: suf, pre, s, i, h, hi, H => by
   subst hi
   obtain ⟨f1, f2, f3⟩ := Q7 hz h (by omega) (TNode.cells_len u) (by decide)
   obtain ⟨nm, e1, e2⟩ := Qc8 u s (H u (List.mem_cons_self))
   have ih := Q73 L z hz hl suf (pre ++ [u]) s (pre.length + 1) (by simpa using h) (by simp) (fun w hw => H w (List.mem_cons_of_mem _ hw))
   have f2' := f2
   rw [TNode.enc, QeE, TNode.cells_3] at f2'
   have hj : ∀ (e : Int) (nm : Str), Q1A z [.val (.int .i64 0), .val (.int .i64 0), .val (.str [])] (.val (.int .i64 pre.length)) (.val (.int .i64 e)) (.val (.str nm)) s = some (.ret (.val (TBad.mk e u.at_ nm).enc), s) := fun e nm => by
    rw [QaW]; simp only [go_sem, Nat.reduceAdd, Nat.reduceLeDiff, f2']; rfl
   rw [Q64]; simp only [go_sem, Nat.reduceAdd, Nat.reduceLeDiff, hz, f1, f2, f3, e1, ih, hj]
   by_cases h0 : u.wrong.1 = 0
   ·simp only [go_sem, Int.reduceEq, h0, firstBad, TNode.bad, mkBad, TBad.zero]
   ·have hk : decide (u.bad.kind = 0) = false := by simp [TNode.bad, mkBad, h0]
    by_cases h8 : u.wrong.1 = 8
    ·have := e2 h8
     subst this
     simp only [go_sem, Int.reduceEq, h8, firstBad, hk]
     simp only [TNode.bad, h8]; rfl
    ·simp only [go_sem, decide_eq_false h0, decide_eq_false h8, firstBad, hk]
     simp only [TNode.bad, mkBad, decide_eq_false h0, decide_eq_false h8]; rfl
theorem Qc5 (l : List TNode) (v : AV) (hv : (Slot.val v).list? = some (l.map TNode.enc)) (deep : Int) (s : St) (h : l.length < 2^39) (H : ∀ n ∈ l, n.ok) : cw (.f Q26) [v, .int .i64 deep] s = some (.ret (.val (rightN l deep).enc), s) := by
 have h1 := Q72 l v hv s h
 have h2 := Q73 l (.val v) hv (by omega) l [] s 0 rfl rfl H
 rw [show ((0 : Nat) : Int) = 0 from rfl] at h2
 rw [Qej]; simp only [go_sem, Nat.reduceAdd, Nat.reduceLeDiff, h1, h2]
 have e : decide ((countN l : Int) > 8192) = decide (countN l > 8192) := by simp only [gt_iff_lt]; congr 1; rw [eq_iff_iff]; omega
 rw [e]
 unfold rightN
 cases decide (countN l > 8192) <;> cases decide (deep > 100) <;> rfl
theorem QbZ (l : List Dec) (nl : Bool) (s : St) (h : Dec.sizes l < 2^26) (H : ∀ n ∈ nodesDecs false l, n.ok) : Ret (cw (.f Q5H) [encS nl (l.map Dec.enc)] s) s (rightN (nodesDecs false l) (deepDecs l 0)).enc := by
 obtain ⟨x, s1, e1, g1⟩ := Q9L l nl s h
 have hlen := Q2b false l
 obtain ⟨b, hb⟩ := g1.av
 have h2 := QcY l nl s1 (by omega)
 have h3 := Qc5 (nodesDecs false l) (encS b ((nodesDecs false l).map TNode.enc)) (by simp only [go_sem]) (deepDecs l 0) s1 (by omega) H
 rw [Qec]; simp only [go_sem, e1, h2, Qh hb, h3]
 exact Ret.mk g1.grew
theorem Qd1 (l : List Dec) (nl : Bool) (s : St) (h : Dec.sizes l < 2^26) : Ret (cw (.f Q6F) [encS nl (l.map Dec.enc)] s) s (.int .i64 (countN (nodesDecs false l))) := by
 obtain ⟨x, s1, e1, g1⟩ := Q9L l nl s h
 have hlen := Q2b false l
 obtain ⟨b, hb⟩ := g1.av
 have h3 := Q72 (nodesDecs false l) (encS b ((nodesDecs false l).map TNode.enc)) (by simp only [go_sem]) s1 (by omega)
 rw [Qfu]; simp only [go_sem, e1, Qh hb, h3]
 exact Ret.mk g1.grew
end Go.Proofs.YtinphnakebeloaaGreat
namespace Go.Proofs.YtinphnakebeloaaGreat
open Go Go.Am
set_option linter.unusedVariables false
set_option maxRecDepth 4000
theorem Q5M {inn : Bool} : ∀ {P : List Dec} {d : Dec}, d ∈ P → .dec inn d ∈ nodesDecs inn P
 | d :: P, e, h => by
   simp only [nodesDecs]
   rcases List.mem_cons.1 h with rfl | h
   ·cases e; simp only [nodesDec]; exact List.mem_append_left _ List.mem_cons_self
   ·exact List.mem_append_right _ (Q5M h)
theorem Qjp {P : List Dec} (hs : Dec.sizes P < 2^24) (h : rightN (nodesDecs false P) (deepDecs P 0) = .zero) : ∀ d ∈ P, DecFit d := by
 intro d hd
 have hw : wrongDecB d false = 0 := Q5m h _ (Q5M hd)
 have D := Qcy hw
 have hsz := Dec.mem_sizes hd
 constructor
 ·by_cases h3 : d.kind = 3
  ·have := (D.data h3).2.2.2.1; omega
  ·have := (D.bare h3).1; omega
 ·intro c hc
  have h1 := Con.mem_sizes hc
  have h2 : Con.sizes d.cons ≤ d.size := by
   cases d; simp only [Dec.size, Dec.cons]; omega
  refine Q7s _ ?_
  simp only [Con.size] at h1
  omega
theorem QbJ (P : List Dec) (nl : Bool) (hs : Dec.sizes P < 2^24) (hok : ∀ n ∈ nodesDecs false P, n.ok) (s : St) : Ret (cw (.f Q08) [encS nl (P.map Dec.enc)] s) s (checkD P).enc :=
 Qcd P nl hs (Qjp hs) hok s
def fewB (P : List Dec) : Bool := decide ((P.length : Int) ≤ 12) && decide (((countN (nodesDecs false P) : Nat) : Int) ≤ 300)
theorem Qe3 (P : List Dec) (nl : Bool) (hs : Dec.sizes P < 2^24) (s : St) : Ret (cw (.f Q8d) [encS nl (P.map Dec.enc)] s) s (.bool (fewB P)) := by
 obtain ⟨s1, e1, g1⟩ := Qd1 P nl s (by omega)
 rw [Qgy]
 unfold fewB
 by_cases h : (P.length : Int) ≤ 12
 ·refine ⟨s1, ?_, g1⟩
  simp only [go_sem, List.length_map, h, decide_true, e1, Bool.true_and]
 ·refine ⟨s, ?_, .refl s⟩
  simp only [go_sem, List.length_map, decide_eq_false h, Bool.false_and]
def valD (p : Pat) (e : Exp) : Dec := .mk 1 0 [] 0 [] true [.mk p e] false [] true
theorem Q8D (p : Pat) (e : Exp) (s : St) : cw (.f Q2l) [p.enc, e.enc] s = some (.ret (.val (valD p e).enc), s) := by
 rw [Qgz]
 simp only [go_sem, Nat.reduceAdd, Nat.reduceLeDiff, Pat.enc, Exp.enc, Pat.cells_eq, Exp.cells_eq, valD, Dec.enc, Dec.cells_mk, List.map_cons, List.map_nil, Q6t, Q0B, Case.enc, Case.cells_mk, List.cons_append, List.nil_append]
theorem Q9O (l m : List Str) (x y : Slot) (hx : x.list? = some (l.map .str)) (hy : y.list? = some (m.map .str)) (hl : l.length < 2^40) (he : l.length = m.length) (s : St) : ∀ (suf suf' pre pre' : List Str) (i : Nat), pre ++ suf = l → pre' ++ suf' = m → i = pre.length → pre'.length = pre.length →
  Q2j x y (.val (.int .i64 i)) s = some (.ret (.val (.bool (decide (suf = suf')))), s)
 | [], suf', pre, pre', i, hp, hp', hi, hi' => by
   subst hi
   have : suf' = [] := by
    have h1 : l.length = pre.length := by rw [← hp]; simp
    have h2 : m.length = pre'.length + suf'.length := by rw [← hp']; simp
    exact List.eq_nil_of_length_eq_zero (by omega)
   subst this
   rw [Q7c]; simp only [go_sem, hx, List.length_map, Q9 (show pre = l by simpa using hp), decide_true]
 | k :: suf, [], pre, pre', i, hp, hp', hi, hi' => by
   have h1 : l.length = pre.length + (suf.length + 1) := by rw [← hp]; simp
   have h2 : m.length = pre'.length := by rw [← hp']; simp
   omega
 | k :: suf, k' :: suf', pre, pre', i, hp, hp', hi, hi' => by
   subst hi
   obtain ⟨f1, f2, f3⟩ := Q7 hx hp (by omega) (sz := 1) rfl (by decide)
   obtain ⟨f4, f5, f6⟩ := Q7 hy hp' (by omega) (sz := 1) rfl (by decide)
   rw [hi'] at f5
   have ih := Q9O l m x y hx hy hl he s suf suf' (pre ++ [k]) (pre' ++ [k']) (pre.length + 1) (by simpa using hp) (by simpa using hp') (by simp) (by simp [hi'])
   rw [Q7c]
   by_cases e : k = k'
   ·subst e
    simp only [go_sem, Nat.reduceAdd, Nat.reduceLeDiff, hx, List.length_map, f1, f2, f3, f5, decide_true, Bool.not_true, ih, List.cons.injEq, true_and]
   ·have : ¬ (k :: suf = k' :: suf') := fun h => e (List.cons.inj h).1
    simp only [go_sem, Nat.reduceAdd, Nat.reduceLeDiff, hx, List.length_map, f1, f2, f3, f5, decide_eq_false e, Bool.not_false, decide_eq_false this]
theorem Q7S (l m : List Str) (v w : AV) (hv : (Slot.val v).list? = some (l.map .str)) (hw : (Slot.val w).list? = some (m.map .str)) (hl : l.length < 2^40) (s : St) : cw (.f Q2E) [v, w] s = some (.ret (.val (.bool (decide (l = m)))), s) := by
 rw [QfE]
 by_cases he : l.length = m.length
 ·have e1 := Q9O l m (.val v) (.val w) hv hw hl he s l m [] [] 0 rfl rfl rfl rfl
  rw [show ((0 : Nat) : Int) = 0 from rfl] at e1
  have he' : decide ((l.length : Int) = (m.length : Int)) = true := by simp only [decide_eq_true_eq]; omega
  simp only [go_sem, hv, hw, List.length_map, he', Bool.not_true, e1]
 ·have he' : decide ((l.length : Int) = (m.length : Int)) = false := by simp only [decide_eq_false_iff_not]; omega
  have : ¬ (l = m) := fun h => he (by rw [h])
  simp only [go_sem, hv, hw, List.length_map, he', Bool.not_false, decide_eq_false this]
def kx : Str := [120]
def kpx : Pat := .mk 2 0 kx 0 [] true
def kv : Exp := .mk 2 8 kx 0 [] true [] true [] true
def kint : Exp := .mk 1 0 [] 0 [] true [] true [] true
theorem kc1 : checkD [valD kpx kv] = ⟨16, 8, kx⟩ := by decide +kernel
theorem kc2 : checkD [valD kpx kint, valD kpx kv] = .zero := by decide +kernel
theorem kc3 : freeD kv = [kx] := by decide +kernel
theorem kc4 : bindsD (valD kpx kv) = [kx] := by decide +kernel
theorem kok {P : List Dec} (h : (nodesDecs false P).all (fun n => match n with | .dec _ d => decide (d.name.length < 2^40) | .exp e => decide (e.name.length < 2^40) && decide (e.kids.length < 2^40) && decide (-9223372036854775808 ≤ e.n) && decide (e.n ≤ 9223372036854775807) | .pat p => decide (p.name.length < 2^40) && decide (-9223372036854775808 ≤ p.n) && decide (p.n ≤ 9223372036854775807) | .ty t _ => decide (t.name.length < 2^40) | .fn f => decide (f.name.length < 2^40) | .con c => decide (c.name.length < 2^40)) = true) : ∀ n ∈ nodesDecs false P, n.ok := by
 intro n hn
 have := List.all_eq_true.1 h n hn
 cases n <;> simp only [TNode.ok, Bool.and_eq_true, decide_eq_true_eq] at this ⊢ <;> first | exact this | exact ⟨this.1.1.1, this.1.1.2, this.1.2, this.2⟩ | exact ⟨this.1.1, this.1.2, this.2⟩
theorem Q6P (s : St) : Ret (cw (.f Q3y) [] s) s (.bool true) := by
 have v1 := fun s => Q8D kpx kv s
 have v2 := fun s => Q8D kpx kint s
 obtain ⟨s1, e1, g1⟩ := QbJ [valD kpx kv] false (by decide +kernel) (kok (by decide +kernel)) s
 obtain ⟨s2, e2, g2⟩ := QbJ [valD kpx kint, valD kpx kv] false (by decide +kernel) (kok (by decide +kernel)) s1
 obtain ⟨x3, s3, w3, e3, a3, l3, g3⟩ := Qdi kv (by decide +kernel) (by
  intro n hn
  simp only [kv, nodesExp, nodesExps, nodesCases, nodesDecs, List.nil_append, List.append_nil, List.mem_cons, List.not_mem_nil, or_false] at hn
  subst hn
  simp [TNode.ok, Exp.name, Exp.kids, Exp.n, kx]) s2
 obtain ⟨x4, s4, w4, e4, a4, l4, g4⟩ := Qcb (valD kpx kv) (by decide +kernel) (kok (by decide +kernel)) s3
 rw [kc1] at e1
 rw [kc2] at e2
 rw [kc3] at l3
 rw [kc4] at l4
 have r3 := fun s => Q7S [kx] [kx] w3 (.sl [.str kx]) l3 rfl (by decide) s
 have r4 := fun s => Q7S [kx] [kx] w4 (.sl [.str kx]) l4 rfl (by decide) s
 refine ⟨s4, ?_, ((g1.trans g2).trans g3).trans g4⟩
 simp only [decide_true] at r3 r4
 simp only [valD, kpx, kv, kint, kx, List.map_cons, List.map_nil, Q6t, Q0B, Q0Z, Pat.enc, Pat.cells_mk, Exp.enc, Exp.cells_mk, Dec.enc, Dec.cells_mk, Case.enc, Case.cells_mk, List.cons_append, List.nil_append, TBad.enc, TBad.cells, TBad.zero] at v1 v2 e1 e2 e3 e4 r3 r4
 rw [Qe4]
 simp only [go_sem, Nat.reduceAdd, Nat.reduceLeDiff, v1, v2, e1, e2, e3, e4, r3, r4, Qh a3, Qh a4]
end Go.Proofs.YtinphnakebeloaaGreat
namespace Go.Proofs.YtinphnakebeloaaGreat
open Go Go.Am
set_option linter.unusedVariables false
set_option maxRecDepth 4000
theorem Q7K (t : Pat) (hl : t.kids.length < 2^40) (s0 : St) : ∀ (suf pre : List Pat) (A : List Str) (x : Slot) (s : St) (i : Nat), AccR Q1 s0 s x (A.map .str) → pre ++ suf = t.kids → i = pre.length → (∀ t ∈ suf, ∀ s, RetA (cw (.f Q0y) [t.enc] s) Q1 s ((varsPat t).map .str)) → A.length + Pat.sizes suf < 2^30 →
  RetA (Q2g (t.cells.map .val) x (.val (.int .i64 i)) s) Q1 s0 ((A ++ varsPats suf).map .str)
 | [], pre, A, x, s, i, hA, h, hi, H, hb => by
   subst hi
   rw [Q71]; simp only [go_sem, Nat.reduceAdd, Nat.reduceLeDiff, Pat.cells_eq, Q9 (by simpa using h), varsPats, List.append_nil]
   exact RetA.mk hA
 | u :: suf, pre, A, x, s, i, hA, h, hi, H, hb => by
   subst hi
   obtain ⟨f1, f2, f3⟩ := Q7 (x := .val (encS t.kb (t.kids.map Pat.enc))) (Qb _ _) h (by omega) (Pat.cells_len u) (by decide)
   obtain ⟨y, s1, e1, g1⟩ := H u (List.mem_cons_self) s
   have hlen := Q2t u
   simp only [Pat.sizes] at hb
   obtain ⟨x', s2, e2, g2⟩ := AccR.appendF (t := C.ti Q1) (f := AV.str) (hA.move g1.grew) g1.list? (fun _ => rfl) (by decide) (by omega) (by decide +kernel)
   have := Q7K t hl s0 suf (pre ++ [u]) (A ++ varsPat u) x' s2 (pre.length + 1) g2 (by simpa using h) (by simp) (fun w hw => H w (List.mem_cons_of_mem _ hw)) (by rw [List.length_append]; omega)
   rw [Q71]; rw [Pat.cells_eq] at this ⊢; simp only [go_sem, Nat.reduceAdd, Nat.reduceLeDiff, f1, f2, f3, e1, e2] at this ⊢
   simp only [varsPats, List.map_append, List.append_assoc] at this ⊢
   exact this
theorem Q7L : ∀ (m : Nat) (t : Pat) (s : St), t.size ≤ m → t.size < 2^28 → RetA (cw (.f Q0y) [t.enc] s) Q1 s ((varsPat t).map .str)
 | 0, .mk _ _ _ _ _ _, _, h, _ => by simp only [Pat.size] at h; omega
 | m + 1, .mk k a nm n l nl, s, h, h' => by
   simp only [Pat.size] at h h'
   have hl := Pat.len_sizes l
   have hj : ∀ (A : List Str) (x : Slot) (s1 : St), AccR Q1 s s1 x (A.map .str) → A.length ≤ 1 → RetA (Q2f ((Pat.mk k a nm n l nl).cells.map .val) x s1) Q1 s ((A ++ varsPats l).map .str) := fun A x s1 hA h1 => by
    rw [Qc0]
    exact Q7K (.mk k a nm n l nl) (by simp only [Pat.kids]; omega) s l [] A x s1 0 hA rfl rfl (fun u hu s => by have := Pat.mem_sizes hu; exact Q7L m u s (by omega) (by omega)) (by omega)
   have hvs : varsPat (.mk k a nm n l nl) = (bif decide (k = 2) || decide (k = 6) then [nm] else []) ++ varsPats l := by simp only [varsPat]; rfl
   rw [Qfv, hvs]
   cases hv : decide (k = 2) || decide (k = 6) with
   | false =>
     have h1 := hj [] (.val .nils) s (AccR.nil _ s) (by simp)
     rw [cond_false]
     simp only [go_sem, Nat.reduceAdd, Pat.enc, hv] at h1 ⊢
     exact h1
   | true =>
     obtain ⟨x', s1, e1, g1⟩ := AccR.appendF (t := C.ti Q1) (f := AV.str) (A := []) (B := [nm]) (y := .full [.str nm]) (AccR.nil Q1 s) rfl (fun _ => rfl) (by decide) (by simp) (by decide +kernel)
     have h1 := hj [nm] x' s1 g1 (by simp)
     rw [cond_true]
     simp only [go_sem, Nat.reduceAdd, Pat.enc, hv, e1] at h1 ⊢
     exact h1
end Go.Proofs.YtinphnakebeloaaGreat
namespace Go.Am
open Go
@[go_sem] theorem Qu6 (b : Bool) (sz : Nat) (x : Slot) (r : List Slot) : gd b (fullO (bslS sz (gdV b x :: r))) = gd b (fullO (bslS sz (x :: r))) := by cases b <;> rfl
end Go.Am
namespace Go.Proofs.YtinphnakebeloaaGreat
open Go Go.Am
set_option linter.unusedVariables false
set_option maxRecDepth 4000
end Go.Proofs.YtinphnakebeloaaGreat
namespace Go.Am
open Go
end Go.Am
namespace Go.Proofs.YtinphnakebeloaaGreat
open Go Go.Am
set_option linter.unusedVariables false
set_option maxRecDepth 4000
def CopyOK (t : Ty) : Prop := ∀ s, Ret (cw (.f Zu) [t.enc] s) s (ownTy t).enc
theorem Q7I (t : Ty) (hl : t.args.length < 2^28) (s0 : St) (z : List Slot) (hz : z.length = 4) : ∀ (suf pre A : List Ty) (x : Slot) (s : St) (i : Nat), AccH Q6 s0.toks.length [] s x (A.map Ty.enc) → Moves [] [] [] s0 s → pre ++ suf = t.args → i = pre.length → A.length = pre.length → (∀ t ∈ suf, CopyOK t) →
  Ret (Q12 (t.cells.map .val) z [.val (.int .i64 t.kind), .val (.int .i64 t.n), .val (.str t.name), x] (.val (.int .i64 i)) s) s0 (Ty.mk t.kind t.n t.name (A ++ ownTys suf) true).enc
 | [], pre, A, x, s, i, hA, hM, h, hi, hn, H => by
   subst hi
   rw [Q5v]; simp only [go_sem, Nat.reduceAdd, Nat.reduceLeDiff, Ty.cells_eq, Q9 (by simpa using h), Qh hA.av, ownTys, hz]
   exact ⟨_, by simp only [Ty.enc]; rw [Ty.cells_mk], hM.toGrew⟩
 | u :: suf, pre, A, x, s, i, hA, hM, h, hi, hn, H => by
   subst hi
   obtain ⟨f1, f2, f3⟩ := Q7 (x := .val (encS t.nl (t.args.map Ty.enc))) (Qb _ _) h (by omega) (Ty.cells_len u) (by decide)
   obtain ⟨s1, e1, g1⟩ := H u List.mem_cons_self s
   have hlen : pre.length < t.args.length := by rw [← h]; simp
   have hM1 := hM.trans (.grew [] [] g1)
   obtain ⟨x1, s2, e2, a2, m2, -, -, -⟩ := tyAcc (A0 := []) (h0 := []) (h := []) (s0 := s0) (B := [ownTy u]) (y := .full [(ownTy u).enc]) (hA.move (.grew [] [] g1)) hM1 (by simp) rfl (by simp only [List.length_singleton]; omega)
   have ih := Q7I t hl s0 z hz suf (pre ++ [u]) (A ++ [ownTy u]) x1 s2 (pre.length + 1) a2 m2 (by simpa using h) (by simp) (by simp [hn]) (fun w hw => H w (List.mem_cons_of_mem _ hw))
   have c1 := a2.cellOk
   rw [Q5v]; rw [Ty.cells_eq] at ih ⊢; simp only [go_sem, Nat.reduceAdd, Nat.reduceLeDiff, f1, f2, f3, e1, e2, c1, ownTys] at ih ⊢
   exact ih
theorem Q11 : ∀ (k : Nat) (t : Ty), t.size ≤ k → t.size < 2^28 → CopyOK t
 | 0, .mk _ _ _ _ _, h, _ => by simp only [Ty.size] at h; omega
 | k + 1, .mk kd n nm l nl, h, h' => fun s => by
   simp only [Ty.size] at h h'
   have hl := Ty.len_sizes l
   have e1 := Q7I (.mk kd n nm l nl) (by simp only [Ty.args]; omega) s [.val (.int .i64 0), .val (.int .i64 0), .val (.str []), .val .nils] rfl l [] [] (.val .nils) s 0 (.nil _ _ _ _) (.refl _ _ _) rfl rfl rfl (fun t ht => by
    have := Ty.mem_sizes ht
    exact Q11 k t (by omega) (by omega))
   rw [show ((0 : Nat) : Int) = 0 from rfl] at e1
   rw [QcX]
   simp only [go_sem, Nat.reduceAdd, Nat.reduceLeDiff, Ty.enc, Ty.kind, Ty.n, Ty.name, Ty.args, Ty.nl, ownTy] at e1 ⊢
   exact e1
theorem Qbq (nm : Str) (l : List Ty) (y : Slot) (hy : y.list? = some (l.map Ty.enc)) (hl : l.length < 2^28) (s0 : St) (z : List Slot) (hz : z.length = 4) : ∀ (suf pre A : List Ty) (x : Slot) (s : St) (i : Nat), AccH Q6 s0.toks.length [] s x (A.map Ty.enc) → Moves [] [] [] s0 s → pre ++ suf = l → i = pre.length → A.length = pre.length → (∀ t ∈ suf, CopyOK t) →
  Ret (Q3n y z [.val (.int .i64 2), .val (.int .i64 0), .val (.str nm), x] (.val (.int .i64 i)) s) s0 (Ty.mk 2 0 nm (A ++ suf.map ownTy) true).enc
 | [], pre, A, x, s, i, hA, hM, h, hi, hn, H => by
   subst hi
   rw [Q8J]; simp only [go_sem, Nat.reduceAdd, Nat.reduceLeDiff, hy, Q9 (by simpa using h), Qh hA.av, hz]
   exact ⟨_, by simp only [Ty.enc]; rw [Ty.cells_mk], hM.toGrew⟩
 | u :: suf, pre, A, x, s, i, hA, hM, h, hi, hn, H => by
   subst hi
   obtain ⟨f1, f2, f3⟩ := Q7 hy h (by omega) (Ty.cells_len u) (by decide)
   obtain ⟨s1, e1, g1⟩ := H u List.mem_cons_self s
   have hlen : pre.length < l.length := by rw [← h]; simp
   have hM1 := hM.trans (.grew [] [] g1)
   obtain ⟨x1, s2, e2, a2, m2, -, -, -⟩ := tyAcc (A0 := []) (h0 := []) (h := []) (s0 := s0) (B := [ownTy u]) (y := .full [(ownTy u).enc]) (hA.move (.grew [] [] g1)) hM1 (by simp) rfl (by simp only [List.length_singleton]; omega)
   have ih := Qbq nm l y hy hl s0 z hz suf (pre ++ [u]) (A ++ [ownTy u]) x1 s2 (pre.length + 1) a2 m2 (by simpa using h) (by simp) (by simp [hn]) (fun w hw => H w (List.mem_cons_of_mem _ hw))
   have c1 := a2.cellOk
   rw [Q8J]; simp only [go_sem, Nat.reduceAdd, Nat.reduceLeDiff, hy, f1, f2, f3, e1, e2, c1] at ih ⊢
   exact ih
theorem QfA (nm : Str) (l : List Ty) (v : AV) (hv : (Slot.val v).list? = some (l.map Ty.enc)) (h : Ty.sizes l < 2^28) (s : St) : Ret (cw (.f Q6p) [.str nm, v] s) s (ofTy nm l).enc := by
 have hl := Ty.len_sizes l
 have e1 := Qbq nm l (.val v) hv (by omega) s [.val (.int .i64 0), .val (.int .i64 0), .val (.str []), .val .nils] rfl l [] [] (.val .nils) s 0 (.nil _ _ _ _) (.refl _ _ _) rfl rfl rfl (fun t ht => by
   have := Ty.mem_sizes ht
   exact Q11 _ t (Nat.le_refl _) (by omega))
 rw [show ((0 : Nat) : Int) = 0 from rfl] at e1
 rw [QhO]
 simp only [go_sem, Nat.reduceAdd, Nat.reduceLeDiff, Ty.enc, ofTy] at e1 ⊢
 exact e1
theorem Qfz (a b : Ty) (s : St) (h : a.size + b.size < 2^28) : Ret (cw (.f Q92) [a.enc, b.enc] s) s (fnTy a b).enc := by
 obtain ⟨s1, e1, g1⟩ := QfA [45, 62] [a, b] (.sl [a.enc, b.enc]) rfl (by simp only [Ty.sizes]; omega) s
 refine ⟨s1, ?_, g1⟩
 rw [QhN]
 simp only [go_sem, Nat.reduceLeDiff, Ty.enc, fnTy, ofTy] at e1 ⊢
 simp only [go_sem, Nat.reduceAdd, Nat.reduceLeDiff, e1]
def tnd (u : Ty) : AV := (TNode.ty u 0).enc
theorem QlZ (u : Ty) : (tnd u).cells.length = 47 := TNode.cells_len (.ty u 0)
theorem QkH (t : Ty) (s : St) (h : t.size < 2^28) : RetA (cw (.f ZX) [t.enc, .int .i64 0] s) Qd s ((preTy t).map tnd) := by
 have := Q4g _ 0 t s (Nat.le_refl _) h
 unfold Nodes at this
 rw [Q5l, List.map_map] at this
 exact this
end Go.Proofs.YtinphnakebeloaaGreat
namespace Go.Proofs.YtinphnakebeloaaGreat
open Go Go.Am
set_option linter.unusedVariables false
def ownP (p : Place) : Place := { p with ty := ownTy p.ty }
def dataR (data : Str) (t : List Place) : List Place := (t.filter fun p => decide (p.data = data)).map ownP
def givenR (nm : Str) : Bool := decide (nm = sInt) || decide (nm = sBool) || decide (nm = sUnit) || decide (nm = sExn) || decide (nm = sRef) || decide (nm = sArrow) || decide (nm = sStar)
def dtR (t : List Place) (nm : Str) : Int × Bool := bif givenR nm then (0, false) else match dataR nm t with
 | [] => (0, false)
 | p :: _ => (p.vars, true)
def wrongR1 (t : List Place) (d : Dec) (u : Ty) : Int × Bool := bif decide (d.kind = 3) && decide (u.name = d.name) then (d.params, true) else dtR t u.name
def wrongR (t : List Place) (d : Dec) (u : Ty) : Int × Str :=
 bif decide (u.kind = 1) then (bif !decide (d.kind = 3) || decide (u.n ≥ d.params) then (16, []) else (0, []))
 else bif givenR u.name then (0, []) else bif !(wrongR1 t d u).2 then (8, u.name) else bif !decide ((u.args.length : Int) = (wrongR1 t d u).1) then (19, u.name) else (0, [])
def firstW (t : List Place) (d : Dec) : List Ty → Int × Str
 | [] => (0, [])
 | u :: l => if (wrongR t d u).1 ≠ 0 then wrongR t d u else firstW t d l
def resR (d : Dec) : Ty := bif decide (d.kind = 4) then ofTy sExn [] else .mk 2 0 d.name (bif decide (d.kind = 3) then varsTy d.params.toNat else []) true
def placeR (t : List Place) (d : Dec) (i : Nat) (c : Con) : Place :=
 ⟨c.name, bif decide (d.kind = 4) then sExn else d.name, bif decide (d.kind = 4) then (exns t : Nat) else (i : Int), bif decide (d.kind = 4) then 0 else (d.cons.length : Int), c.has, bif decide (d.kind = 4) then 0 else d.params, bif c.has then fnTy c.arg (resR d) else resR d⟩
def conBadR (t : List Place) (d : Dec) (out : List Place) (c : Con) : Int × Str :=
 if (findD c.name out).isSome then (9, c.name) else bif decide (d.kind = 4) && decide (((exns t : Nat) : Int) > 1023) then (19, c.name) else bif c.has then firstW t d (preTy c.arg) else (0, [])
def consR (t : List Place) (d : Dec) : List Con → Nat → List Place → List Place × TBad
 | [], _, out => (out, .zero)
 | c :: l, i, out => if (conBadR t d out c).1 ≠ 0 then ([], ⟨(conBadR t d out c).1, c.at_, (conBadR t d out c).2⟩) else consR t d l (i + 1) (out ++ [placeR t d i c])
def addR (t : List Place) (d : Dec) : List Place × TBad :=
 bif !decide (d.kind = 3) && !decide (d.kind = 4) then (t.map ownP, .zero)
 else bif decide (d.kind = 3) && ((dtR t d.name).2 || givenR d.name) then ([], ⟨9, d.at_, d.name⟩)
 else consR t d d.cons 0 (t.map ownP)
def ofR : List Dec → List Place → List Place × TBad
 | [], t => (t, .zero)
 | d :: l, t => if (addR t d).2.kind ≠ 0 then ([], (addR t d).2) else ofR l (addR t d).1
end Go.Proofs.YtinphnakebeloaaGreat
namespace Go.Proofs.YtinphnakebeloaaGreat
open Go Go.Am
set_option linter.unusedVariables false
set_option maxRecDepth 4000
theorem Q79 (nm : Str) (s : St) : cw (.f Q3B) [.str nm] s = some (.ret (.val (ofTy nm []).enc), s) := by
 rw [Qeq]; simp only [go_sem, Nat.reduceAdd, Nat.reduceLeDiff, ofTy, Ty.enc, Ty.cells_mk, List.map_nil, Q0B]
theorem Q3I (nm : Str) (s : St) : cw (.f Q28) [.str nm] s = some (.ret (.val (.bool (givenR nm))), s) := by
 rw [Qep]; simp only [go_sem, givenR, sInt, sBool, sUnit, sExn, sRef, sArrow, sStar]
 rfl
def TabFit (t : List Place) : Prop := t.length < 2^26 ∧ ∀ p ∈ t, p.ty.size < 2^27
theorem TabFit.wide {t : List Place} (h : TabFit t) : ∀ p ∈ t, WideTy p.ty := fun p hp => Q7s _ (by have := h.2 p hp; omega)
theorem Q7Q (nm : Str) (t : List Place) (h : TabFit t) (z : List Slot) (hz : z.length = 10) (y : Slot) (hy : y.list? = some (t.map Place.enc)) : ∀ (suf pre : List Place) (s : St) (i : Nat), pre ++ suf = t → i = pre.length →
  Ret (Q2h y (.val (.str nm)) z (.val (.int .i64 i)) s) s (foundD ((findD nm suf).map ownP))
 | [], pre, s, i, hp, hi => by
   subst hi
   rw [Q76]; simp only [go_sem, Nat.reduceAdd, Nat.reduceLeDiff, hy, List.length_map, Q9 (show pre = t by simpa using hp), hz, findD, foundD, Place.enc, Place.cells_eq, Place.zero]
   exact Ret.same _ _
 | p :: suf, pre, s, i, hp, hi => by
   subst hi
   obtain ⟨f1, f2, f3⟩ := Q7 hy hp (by have := h.1; omega) (Place.cells_len p) (by decide)
   have hpm : p ∈ t := by rw [← hp]; simp
   obtain ⟨s1, e1, g1⟩ := Q11 _ p.ty (Nat.le_refl _) (by have := h.2 p hpm; omega) s
   have ih := Q7Q nm t h z hz y hy suf (pre ++ [p]) s (pre.length + 1) (by simpa using hp) (by simp)
   rw [Q76]
   simp only [Ty.enc, Ty.cells_eq] at e1
   by_cases hn : p.name = nm
   ·refine ⟨s1, ?_, g1⟩
    simp only [go_sem, Nat.reduceAdd, Nat.reduceLeDiff, hy, List.length_map, f1, f2, f3, Place.cells_eq, hn, decide_true, e1, hz, findD, if_true, Option.map_some, foundD, Place.enc, ownP]
   ·simp only [go_sem, Nat.reduceAdd, Nat.reduceLeDiff, hy, List.length_map, f1, f2, f3, Place.cells_eq, hn, decide_false, findD, if_false]
    exact ih
theorem Q7R (nm : Str) (t : List Place) (h : TabFit t) (v : AV) (hv : (Slot.val v).list? = some (t.map Place.enc)) (s : St) : Ret (cw (.f Q2D) [v, .str nm] s) s (foundD ((findD nm t).map ownP)) := by
 have e1 := Q7Q nm t h ([.val (.str []), .val (.str []), .val (.int .i64 0), .val (.int .i64 0), .val (.bool false), .val (.int .i64 0), .val (.int .i64 0), .val (.int .i64 0), .val (.str []), .val .nils]) rfl (.val v) hv t [] s 0 rfl rfl
 rw [show ((0 : Nat) : Int) = 0 from rfl] at e1
 rw [QfC]
 simp only [go_sem] at e1 ⊢
 exact e1
theorem Q4j (data : Str) (t : List Place) (h : TabFit t) (y : Slot) (hy : y.list? = some (t.map Place.enc)) (s0 : St) : ∀ (suf pre A : List Place) (x : Slot) (s : St) (i : Nat), AccR Q8 s0 s x (A.map Place.enc) → pre ++ suf = t → i = pre.length → A.length ≤ pre.length →
  RetA (Q0O y (.val (.str data)) x (.val (.int .i64 i)) s) Q8 s0 ((A ++ dataR data suf).map Place.enc)
 | [], pre, A, x, s, i, ha, hp, hi, hA => by
   subst hi
   rw [Q75]; simp only [go_sem, hy, List.length_map, Q9 (show pre = t by simpa using hp)]
   exact ⟨x, s, rfl, by simpa [dataR] using ha⟩
 | p :: suf, pre, A, x, s, i, ha, hp, hi, hA => by
   subst hi
   obtain ⟨f1, f2, f3⟩ := Q7 hy hp (by have := h.1; omega) (Place.cells_len p) (by decide)
   have hpm : p ∈ t := by rw [← hp]; simp
   have hlt : pre.length < t.length := by rw [← hp]; simp
   have hl := h.1
   rw [Q75]
   by_cases hn : p.data = data
   ·obtain ⟨s1, e1, g1⟩ := Q11 _ p.ty (Nat.le_refl _) (by have := h.2 p hpm; omega) s
    obtain ⟨x2, s2, e2, a2⟩ := placeAcc (ha.move g1) (ownP p) (by omega)
    have ih := Q4j data t h y hy s0 suf (pre ++ [p]) (A ++ [ownP p]) x2 s2 (pre.length + 1) a2 (by simpa using hp) (by simp) (by simp only [List.length_append, List.length_cons, List.length_nil]; omega)
    have hd : A ++ dataR data (p :: suf) = A ++ [ownP p] ++ dataR data suf := by simp [dataR, hn]
    rw [hd]
    revert ih
    generalize (A ++ [ownP p] ++ dataR data suf).map Place.enc = L
    intro ih
    simp only [Ty.enc, Ty.cells_eq] at e1
    simp only [ownP, Place.enc, Place.cells_eq, hn] at e2
    simp only [go_sem, Nat.reduceAdd, Nat.reduceLeDiff, hy, List.length_map, f1, f2, f3, Place.cells_eq, hn, decide_true, e1, e2] at ih ⊢
    exact ih
   ·have ih := Q4j data t h y hy s0 suf (pre ++ [p]) A x s (pre.length + 1) ha (by simpa using hp) (by simp) (by simp only [List.length_append, List.length_cons, List.length_nil]; omega)
    have hd : dataR data (p :: suf) = dataR data suf := by simp [dataR, hn]
    rw [hd]
    revert ih
    generalize (A ++ dataR data suf).map Place.enc = L
    intro ih
    simp only [go_sem, Nat.reduceAdd, Nat.reduceLeDiff, hy, List.length_map, f1, f2, f3, Place.cells_eq, hn, decide_false]
    exact ih
theorem Q7P (data : Str) (t : List Place) (h : TabFit t) (v : AV) (hv : (Slot.val v).list? = some (t.map Place.enc)) (s : St) : RetA (cw (.f Q2C) [v, .str data] s) Q8 s ((dataR data t).map Place.enc) := by
 have e1 := Q4j data t h (.val v) hv s t [] [] (.val .nils) s 0 (AccR.nil _ _) rfl rfl (by simp)
 rw [show ((0 : Nat) : Int) = 0 from rfl] at e1
 rw [QfB]
 simpa using e1
theorem Q69 (t : List Place) (h : TabFit t) (y : Slot) (hy : y.list? = some (t.map Place.enc)) (s0 : St) : ∀ (suf pre : List Place) (x : Slot) (s : St) (i : Nat), AccR Q8 s0 s x ((pre.map ownP).map Place.enc) → pre ++ suf = t → i = pre.length →
  RetA (Q15 y x (.val (.int .i64 i)) s) Q8 s0 ((t.map ownP).map Place.enc)
 | [], pre, x, s, i, ha, hp, hi => by
   subst hi
   have hpt : pre = t := by simpa using hp
   subst hpt
   refine ⟨x, s, ?_, ha⟩
   rw [Q5B]; simp only [go_sem, hy, List.length_map, Q9 rfl]
 | p :: suf, pre, x, s, i, ha, hp, hi => by
   subst hi
   obtain ⟨f1, f2, f3⟩ := Q7 hy hp (by have := h.1; omega) (Place.cells_len p) (by decide)
   have hpm : p ∈ t := by rw [← hp]; simp
   have hlt : pre.length < t.length := by rw [← hp]; simp
   have hl := h.1
   obtain ⟨s1, e1, g1⟩ := Q11 _ p.ty (Nat.le_refl _) (by have := h.2 p hpm; omega) s
   obtain ⟨x2, s2, e2, a2⟩ := placeAcc (ha.move g1) (ownP p) (by rw [List.length_map]; omega)
   have ih := Q69 t h y hy s0 suf (pre ++ [p]) x2 s2 (pre.length + 1) (by rw [List.map_append]; exact a2) (by simpa using hp) (by simp)
   rw [Q5B]
   simp only [Ty.enc, Ty.cells_eq] at e1
   simp only [ownP, Place.enc, Place.cells_eq] at e2
   revert ih
   generalize (t.map ownP).map Place.enc = L
   intro ih
   simp only [go_sem, Nat.reduceAdd, Nat.reduceLeDiff, hy, List.length_map, f1, f2, f3, Place.cells_eq, e1, e2] at ih ⊢
   exact ih
theorem Q6a (t : List Place) (h : TabFit t) (v : AV) (hv : (Slot.val v).list? = some (t.map Place.enc)) (s : St) : RetA (cw (.f Q1j) [v] s) Q8 s ((t.map ownP).map Place.enc) := by
 have e1 := Q69 t h (.val v) hv s t [] (.val .nils) s 0 (AccR.nil _ _) rfl rfl
 rw [show ((0 : Nat) : Int) = 0 from rfl] at e1
 rw [Qd9]
 exact e1
theorem Q4K (nm : Str) (t : List Place) (h : TabFit t) (v : AV) (hv : (Slot.val v).list? = some (t.map Place.enc)) (s : St) : Ret (cw (.f Q1V) [v, .str nm] s) s (.tup [.int .i64 (dtR t nm).1, .bool (dtR t nm).2]) := by
 obtain ⟨x1, s1, e1, a1⟩ := Q7P nm t h v hv s
 have e2 := Q3I nm s1
 refine ⟨s1, ?_, a1.grew⟩
 have hl := a1.list?
 rw [Qb0]
 unfold dtR
 cases hg : givenR nm with
 | true =>
   rw [hg] at e2
   simp only [go_sem, e1, e2, hl, cond_true]
 | false =>
   rw [hg] at e2
   cases hd : dataR nm t with
   | nil =>
     rw [hd] at hl
     simp only [List.map_nil] at hl
     simp only [go_sem, e1, e2, hl, cond_false, List.length_nil, Int.natCast_zero, decide_true, Bool.false_or]
   | cons p l =>
     rw [hd] at hl
     have hix : ixS 10 x1 (.val (.int .i64 0)) = some (.val (.cp p.enc.cells)) := Q58 (n := 0) hl rfl (Place.cells_len p) (by decide)
     have hne : decide (((l.length + 1 : Nat) : Int) = 0) = false := by simp only [decide_eq_false_iff_not]; omega
     simp only [go_sem, e1, e2, hl, cond_false, List.length_map, List.length_cons, hne, Bool.false_or, hix, Place.cells_eq]
theorem Qc9 (t : List Place) (h : TabFit t) (d : Dec) (u : Ty) (v : AV) (hv : (Slot.val v).list? = some (t.map Place.enc)) (s : St) : Ret (cw (.f Q3C) [v, d.enc, u.enc] s) s (.tup [.int .i64 (wrongR t d u).1, .str (wrongR t d u).2]) := by
 have e1 := Q3I u.name s
 obtain ⟨s2, e2, g2⟩ := Q4K u.name t h v hv s
 have J : ∀ (m : Int) (b : Bool) (s : St), Q1F (u.cells.map .val) (.val (.int .i64 m)) (.val (.bool b)) s = some (.ret (.val (.tup [.int .i64 (bif !b then ((8, u.name) : Int × Str) else bif !decide ((u.args.length : Int) = m) then (19, u.name) else (0, [])).1, .str (bif !b then ((8, u.name) : Int × Str) else bif !decide ((u.args.length : Int) = m) then (19, u.name) else (0, [])).2])), s) := fun m b s => by
  rw [Qb1]
  cases b with
  | false => simp only [go_sem, Nat.reduceAdd, Nat.reduceLeDiff, Ty.cells_eq, List.map_cons, List.map_nil, Bool.not_false, cond_true]
  | true =>
    by_cases hl : (u.args.length : Int) = m
    ·simp only [go_sem, Nat.reduceAdd, Nat.reduceLeDiff, Ty.cells_eq, List.map_cons, List.map_nil, Bool.not_true, cond_false, List.length_map, decide_eq_true hl]
    ·simp only [go_sem, Nat.reduceAdd, Nat.reduceLeDiff, Ty.cells_eq, List.map_cons, List.map_nil, Bool.not_true, cond_false, List.length_map, decide_eq_false hl, Bool.not_false, cond_true]
 simp only [Ty.cells_eq, List.map_cons, List.map_nil] at J
 by_cases hk : u.kind = 1
 ·refine ⟨s, ?_, .refl s⟩
  rw [Q5a]
  unfold wrongR
  rw [decide_eq_true hk]
  by_cases h3 : d.kind = 3
  ·by_cases hn : u.n ≥ d.params
   ·simp only [go_sem, Nat.reduceAdd, Dec.enc, Dec.cells_eq, Ty.enc, Ty.cells_eq, List.map_cons, List.map_nil, decide_eq_true hk, decide_eq_true h3, decide_eq_true hn, Bool.not_true, cond_true, Bool.or_true]
   ·simp only [go_sem, Nat.reduceAdd, Dec.enc, Dec.cells_eq, Ty.enc, Ty.cells_eq, List.map_cons, List.map_nil, decide_eq_true hk, decide_eq_true h3, decide_eq_false hn, Bool.not_true, cond_true, cond_false, Bool.or_false]
  ·simp only [go_sem, Nat.reduceAdd, Dec.enc, Dec.cells_eq, Ty.enc, Ty.cells_eq, List.map_cons, List.map_nil, decide_eq_true hk, decide_eq_false h3, Bool.not_false, cond_true, Bool.true_or]
 ·unfold wrongR
  rw [decide_eq_false hk, cond_false]
  cases hg : givenR u.name with
  | true =>
    rw [hg] at e1
    refine ⟨s, ?_, .refl s⟩
    rw [Q5a]
    simp only [go_sem, Nat.reduceAdd, Dec.enc, Dec.cells_eq, Ty.enc, Ty.cells_eq, List.map_cons, List.map_nil, decide_eq_false hk, e1, cond_true]
  | false =>
    rw [hg] at e1
    refine ⟨s2, ?_, g2⟩
    rw [Q5a]
    unfold wrongR1
    by_cases h3 : d.kind = 3
    ·by_cases hn : u.name = d.name
     ·rw [decide_eq_true h3, decide_eq_true hn]
      simp only [go_sem, Nat.reduceAdd, Dec.enc, Dec.cells_eq, Ty.enc, Ty.cells_eq, List.map_cons, List.map_nil, decide_eq_false hk, e1, e2, decide_eq_true h3, decide_eq_true hn, J, cond_true, cond_false, Bool.not_true, Bool.and_self]
     ·rw [decide_eq_true h3, decide_eq_false hn]
      simp only [go_sem, Nat.reduceAdd, Dec.enc, Dec.cells_eq, Ty.enc, Ty.cells_eq, List.map_cons, List.map_nil, decide_eq_false hk, e1, e2, decide_eq_true h3, decide_eq_false hn, J, cond_true, cond_false, Bool.and_false]
    ·rw [decide_eq_false h3]
     simp only [go_sem, Nat.reduceAdd, Dec.enc, Dec.cells_eq, Ty.enc, Ty.cells_eq, List.map_cons, List.map_nil, decide_eq_false hk, e1, e2, decide_eq_false h3, J, cond_false, Bool.false_and]
end Go.Proofs.YtinphnakebeloaaGreat