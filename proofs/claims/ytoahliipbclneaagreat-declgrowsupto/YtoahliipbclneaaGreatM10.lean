/- A part of the proof: STree5, STree6, STree7, STy1, STy2. -/
import Derived.Test.YtoahliipbclneaaGreatM3
import Derived.Test.YtoahliipbclneaaGreatM6
import Derived.Test.YtoahliipbclneaaGreatM7
import Derived.Test.YtoahliipbclneaaGreatM8
import Derived.Test.YtoahliipbclneaaGreatM9
set_option linter.unusedVariables false
set_option linter.unusedSimpArgs false
namespace Go.Proofs.YtoahliipbclneaaGreat
open Go Go.Am
set_option linter.unusedVariables false
set_option maxRecDepth 4000
section
variable {σ : Type} (step : TNode → σ → σ × Bool)
def walk : List TNode → σ → σ × Bool
 | [], st => (st, true)
 | n :: l, st => bif (step n st).2 then walk l (step n st).1 else step n st
theorem Q15 (a b : List TNode) (st : σ) : walk step (a ++ b) st = bif (walk step a st).2 then walk step b (walk step a st).1 else walk step a st := by
 induction a generalizing st with
 | nil => rfl
 | cons n a ih =>
   simp only [List.cons_append, walk]
   cases h : (step n st).2
   ·simp only [cond_false, h]
   ·simp only [cond_true]; exact ih _
variable (R : σ × Bool → St → Prop) (P : TNode → Prop) (loc : Nat)
def YOK : Prop := ∀ nd r st s, P nd → R (st, true) s → ∃ s', cw (.y loc) [nd.thing r] s = some (.ret (.val (.bool (step nd st).2)), s') ∧ R (step nd st) s'
def WOK (f : Nat) (args : List AV) (l : List TNode) : Prop := (∀ n ∈ l, P n) → ∀ st s, R (st, true) s → ∃ s', cw (.f f) args s = some (.ret (.val (.bool (walk step l st).2)), s') ∧ R (walk step l st) s'
abbrev wk : AV := .agg [.yld loc]
variable {step} {R} {P} {loc}
theorem Zc {st : σ × Bool} {s' : St} (hb : st.2 = true) (h : R st s') : R (st.1, true) s' := by rw [← hb]; exact h
theorem Q4b (hY : YOK step R P loc) (a : Int) (t : Ty) (r : List AV) (hl : t.args.length < 2^40) : ∀ (suf pre : List Ty) (st : σ) (s : St) (i : Nat), pre ++ suf = t.args → i = pre.length → (∀ u ∈ suf, ∀ r, WOK step R P QZ [wk loc, .cp (u.cells ++ r), .int .i64 a] (nodesTy a u)) → (∀ n ∈ nodesTys a suf, P n) → R (st, true) s →
  ∃ s', Za (.val (.cp (t.cells ++ r))) (.val (.int .i64 a)) [.val (.yld loc)] (.val (.int .i64 t.args.length)) (.val (.int .i64 i)) s = some (.ret (.val (.bool (walk step (nodesTys a suf) st).2)), s') ∧ R (walk step (nodesTys a suf) st) s'
 | [], pre, st, s, i, h, hi, H, hP, hR => by
   subst hi
   rw [Q1P]; simp only [go_sem, Nat.reduceAdd, Nat.reduceLeDiff, Q9 (by simpa using h), nodesTys, walk]
   exact ⟨s, rfl, hR⟩
 | u :: suf, pre, st, s, i, h, hi, H, hP, hR => by
   subst hi
   obtain ⟨f1, f2, f3⟩ := Q8 (x := .val (encS t.nl (t.args.map Ty.enc))) (Qf _ _) h (by omega) (Ty.cells_len u) (by decide)
   simp only [nodesTys] at hP ⊢
   obtain ⟨s1, e1, g1⟩ := H u (List.mem_cons_self) [] (fun n hn => hP n (List.mem_append_left _ hn)) st s hR
   rw [Q1P]
   rw [Q15]
   cases hb : (walk step (nodesTy a u) st).2 with
   | false =>
     rw [hb] at e1
     simp only [go_sem, Nat.reduceAdd, Nat.reduceLeDiff, Ty.cells_eq, f1] at e1 f2 ⊢
     simp only [go_sem, Nat.reduceAdd, Nat.reduceLeDiff, f2, e1, hb]
     exact ⟨s1, rfl, g1⟩
   | true =>
     rw [hb] at e1
     obtain ⟨s2, e2, g2⟩ := Q4b hY a t r hl suf (pre ++ [u]) (walk step (nodesTy a u) st).1 s1 (pre.length + 1) (by simpa using h) (by simp) (fun w hw => H w (List.mem_cons_of_mem _ hw)) (fun n hn => hP n (List.mem_append_right _ hn)) (Zc hb g1)
     refine ⟨s2, ?_, g2⟩
     rw [cond_true, ← e2]
     simp only [go_sem, Nat.reduceAdd, Nat.reduceLeDiff, Ty.cells_eq, f1] at e1 f2 ⊢
     simp only [go_sem, Nat.reduceAdd, Nat.reduceLeDiff, f2, e1, f3]
theorem Q4c (hY : YOK step R P loc) : ∀ (m : Nat) (a : Int) (t : Ty) (r : List AV), t.size ≤ m → t.size < 2^40 → WOK step R P QZ [wk loc, .cp (t.cells ++ r), .int .i64 a] (nodesTy a t)
 | 0, a, .mk _ _ _ _ _, _, h, _ => by simp only [Ty.size] at h; omega
 | m + 1, a, .mk k n nm l nl, r, h, h' => fun hP st s hR => by
   simp only [Ty.size] at h h'
   have hl := Ty.len_sizes l
   simp only [nodesTy] at hP ⊢
   obtain ⟨s1, e1, g1⟩ := hY (.ty (.mk k n nm l nl) a) r st s (hP _ (List.mem_cons_self)) hR
   rw [Q6x]
   simp only [walk]
   cases hb : (step (.ty (.mk k n nm l nl) a) st).2 with
   | false =>
     rw [hb] at e1
     simp only [go_sem, Nat.reduceAdd, Nat.reduceLeDiff, TNode.thing] at e1 ⊢
     simp only [go_sem, e1, hb]
     exact ⟨s1, rfl, g1⟩
   | true =>
     rw [hb] at e1
     obtain ⟨s2, e2, g2⟩ := Q4b hY a (.mk k n nm l nl) r (by simp only [Ty.args]; omega) l [] (step (.ty (.mk k n nm l nl) a) st).1 s1 0 rfl rfl (fun u hu r => by have := Ty.mem_sizes hu; exact Q4c hY m a u r (by omega) (by omega)) (fun n hn => hP n (List.mem_cons_of_mem _ hn)) (Zc hb g1)
     refine ⟨s2, ?_, g2⟩
     rw [cond_true, ← e2]
     simp only [go_sem, Nat.reduceAdd, Nat.reduceLeDiff, TNode.thing] at e1 ⊢
     simp only [go_sem, e1, Ty.args]
     rfl
theorem Q50 (hY : YOK step R P loc) (t : Pat) (r : List AV) (hl : t.kids.length < 2^40) : ∀ (suf pre : List Pat) (st : σ) (s : St) (i : Nat), pre ++ suf = t.kids → i = pre.length → (∀ u ∈ suf, ∀ r, WOK step R P Z6 [wk loc, .cp (u.cells ++ r)] (nodesPat u)) → (∀ n ∈ nodesPats suf, P n) → R (st, true) s →
  ∃ s', Zi (.val (.cp (t.cells ++ r))) [.val (.yld loc)] (.val (.int .i64 t.kids.length)) (.val (.int .i64 i)) s = some (.ret (.val (.bool (walk step (nodesPats suf) st).2)), s') ∧ R (walk step (nodesPats suf) st) s'
 | [], pre, st, s, i, h, hi, H, hP, hR => by
   subst hi
   rw [Q26]; simp only [go_sem, Nat.reduceAdd, Nat.reduceLeDiff, Q9 (by simpa using h), nodesPats, walk]
   exact ⟨s, rfl, hR⟩
 | u :: suf, pre, st, s, i, h, hi, H, hP, hR => by
   subst hi
   obtain ⟨f1, f2, f3⟩ := Q8 (x := .val (encS t.kb (t.kids.map Pat.enc))) (Qf _ _) h (by omega) (Pat.cells_len u) (by decide)
   simp only [nodesPats] at hP ⊢
   obtain ⟨s1, e1, g1⟩ := H u (List.mem_cons_self) [] (fun n hn => hP n (List.mem_append_left _ hn)) st s hR
   rw [Q26]
   rw [Q15]
   cases hb : (walk step (nodesPat u) st).2 with
   | false =>
     rw [hb] at e1
     simp only [go_sem, Nat.reduceAdd, Nat.reduceLeDiff, Pat.cells_eq, f1] at e1 f2 ⊢
     simp only [go_sem, Nat.reduceAdd, Nat.reduceLeDiff, f2, e1, hb]
     exact ⟨s1, rfl, g1⟩
   | true =>
     rw [hb] at e1
     obtain ⟨s2, e2, g2⟩ := Q50 hY t r hl suf (pre ++ [u]) (walk step (nodesPat u) st).1 s1 (pre.length + 1) (by simpa using h) (by simp) (fun w hw => H w (List.mem_cons_of_mem _ hw)) (fun n hn => hP n (List.mem_append_right _ hn)) (Zc hb g1)
     refine ⟨s2, ?_, g2⟩
     rw [cond_true, ← e2]
     simp only [go_sem, Nat.reduceAdd, Nat.reduceLeDiff, Pat.cells_eq, f1] at e1 f2 ⊢
     simp only [go_sem, Nat.reduceAdd, Nat.reduceLeDiff, f2, e1, f3]
theorem Q51 (hY : YOK step R P loc) : ∀ (m : Nat) (t : Pat) (r : List AV), t.size ≤ m → t.size < 2^40 → WOK step R P Z6 [wk loc, .cp (t.cells ++ r)] (nodesPat t)
 | 0, .mk _ _ _ _ _ _, _, h, _ => by simp only [Pat.size] at h; omega
 | m + 1, .mk k a nm n l nl, r, h, h' => fun hP st s hR => by
   simp only [Pat.size] at h h'
   have hl := Pat.len_sizes l
   simp only [nodesPat] at hP ⊢
   obtain ⟨s1, e1, g1⟩ := hY (.pat (.mk k a nm n l nl)) r st s (hP _ (List.mem_cons_self)) hR
   rw [Q6Y]
   simp only [walk]
   cases hb : (step (.pat (.mk k a nm n l nl)) st).2 with
   | false =>
     rw [hb] at e1
     simp only [go_sem, Nat.reduceAdd, Nat.reduceLeDiff, TNode.thing, Pat.at_] at e1 ⊢
     simp only [go_sem, e1, hb]
     exact ⟨s1, rfl, g1⟩
   | true =>
     rw [hb] at e1
     obtain ⟨s2, e2, g2⟩ := Q50 hY (.mk k a nm n l nl) r (by simp only [Pat.kids]; omega) l [] (step (.pat (.mk k a nm n l nl)) st).1 s1 0 rfl rfl (fun u hu r => by have := Pat.mem_sizes hu; exact Q51 hY m u r (by omega) (by omega)) (fun n hn => hP n (List.mem_cons_of_mem _ hn)) (Zc hb g1)
     refine ⟨s2, ?_, g2⟩
     rw [cond_true, ← e2]
     simp only [go_sem, Nat.reduceAdd, Nat.reduceLeDiff, TNode.thing, Pat.at_] at e1 ⊢
     simp only [go_sem, e1, Pat.kids]
     rfl
def WExp (step : TNode → σ → σ × Bool) (R : σ × Bool → St → Prop) (P : TNode → Prop) (loc : Nat) (t : Exp) : Prop := ∀ r, WOK step R P Zo [wk loc, .cp (t.cells ++ r)] (nodesExp t)
def WCases (step : TNode → σ → σ × Bool) (R : σ × Bool → St → Prop) (P : TNode → Prop) (loc : Nat) (l : List Case) : Prop := ∀ v, (Slot.val v).list? = some (l.map Case.enc) → WOK step R P QY [wk loc, v] (nodesCases l)
def WDecs (step : TNode → σ → σ × Bool) (R : σ × Bool → St → Prop) (P : TNode → Prop) (loc : Nat) (l : List Dec) : Prop := ∀ v inn, (Slot.val v).list? = some (l.map Dec.enc) → WOK step R P QP [wk loc, v, .bool inn] (nodesDecs inn l)
theorem Q1S (hY : YOK step R P loc) (L : List Case) (x : Slot) (hx : x.list? = some (L.map Case.enc)) (hl : L.length < 2^40) : ∀ (suf pre : List Case) (st : σ) (s : St) (i : Nat), pre ++ suf = L → i = pre.length → (∀ u ∈ suf, WExp step R P loc u.exp ∧ u.size < 2^40) → (∀ n ∈ nodesCases suf, P n) → R (st, true) s →
  ∃ s', Z9 x [.val (.yld loc)] (.val (.int .i64 L.length)) (.val (.int .i64 i)) s = some (.ret (.val (.bool (walk step (nodesCases suf) st).2)), s') ∧ R (walk step (nodesCases suf) st) s'
 | [], pre, st, s, i, h, hi, H, hP, hR => by
   subst hi
   rw [Q1O]; simp only [go_sem, Nat.reduceAdd, Nat.reduceLeDiff, Q9 (by simpa using h), nodesCases, walk]
   exact ⟨s, rfl, hR⟩
 | .mk p e :: suf, pre, st, s, i, h, hi, H, hP, hR => by
   subst hi
   obtain ⟨f1, f2, f3⟩ := Q8 hx h (by omega) (Case.cells_len (.mk p e)) (by decide)
   simp only [nodesCases, nodesCase] at hP ⊢
   obtain ⟨hE, hsz⟩ := H (.mk p e) (List.mem_cons_self)
   simp only [Case.exp, Case.size] at hE hsz
   obtain ⟨s1, e1, g1⟩ := Q51 hY _ p e.cells (Nat.le_refl _) (by omega) (fun n hn => hP n (List.mem_append_left _ (List.mem_append_left _ hn))) st s hR
   rw [Q1O]
   rw [Q15, Q15]
   cases hb : (walk step (nodesPat p) st).2 with
   | false =>
     rw [hb] at e1
     simp only [go_sem, Nat.reduceAdd, Nat.reduceLeDiff, f1, f2, e1, hb]
     exact ⟨s1, rfl, g1⟩
   | true =>
     rw [hb] at e1
     rw [cond_true]
     obtain ⟨s2, e2, g2⟩ := hE [] (fun n hn => hP n (List.mem_append_left _ (List.mem_append_right _ hn))) (walk step (nodesPat p) st).1 s1 (Zc hb g1)
     cases hb2 : (walk step (nodesExp e) (walk step (nodesPat p) st).1).2 with
     | false =>
       rw [hb2] at e2
       simp only [go_sem] at e2
       simp only [go_sem, Nat.reduceAdd, Nat.reduceLeDiff, Nat.reduceSub, f1, f2, e1, e2, hb2]
       exact ⟨s2, rfl, g2⟩
     | true =>
       rw [hb2] at e2
       obtain ⟨s3, e3, g3⟩ := Q1S hY L x hx hl suf (pre ++ [.mk p e]) (walk step (nodesExp e) (walk step (nodesPat p) st).1).1 s2 (pre.length + 1) (by simpa using h) (by simp) (fun w hw => H w (List.mem_cons_of_mem _ hw)) (fun n hn => hP n (List.mem_append_right _ hn)) (Zc hb2 g2)
       refine ⟨s3, ?_, g3⟩
       rw [cond_true, ← e3]
       simp only [go_sem] at e2
       simp only [go_sem, Nat.reduceAdd, Nat.reduceLeDiff, Nat.reduceSub, f1, f2, e1, e2, f3]
theorem Q4Z (hY : YOK step R P loc) (t : Exp) (r : List AV) (hl : t.kids.length < 2^40) (HC : WCases step R P loc t.cases) : ∀ (suf pre : List Exp) (st : σ) (s : St) (i : Nat), pre ++ suf = t.kids → i = pre.length → (∀ u ∈ suf, WExp step R P loc u) → (∀ n ∈ nodesExps suf ++ nodesCases t.cases, P n) → R (st, true) s →
  ∃ s', Zh (.val (.cp (t.cells ++ r))) [.val (.yld loc)] (.val (.int .i64 t.kids.length)) (.val (.int .i64 i)) s = some (.ret (.val (.bool (walk step (nodesExps suf ++ nodesCases t.cases) st).2)), s') ∧ R (walk step (nodesExps suf ++ nodesCases t.cases) st) s'
 | [], pre, st, s, i, h, hi, H, hP, hR => by
   subst hi
   simp only [nodesExps, List.nil_append] at hP ⊢
   obtain ⟨s1, e1, g1⟩ := HC (encS t.cb (t.cases.map Case.enc)) (by simp only [go_sem]) hP st s hR
   rw [Q25]; simp only [go_sem, Nat.reduceAdd, Nat.reduceLeDiff, Exp.cells_eq, Q9 (by simpa using h), e1]
   exact ⟨s1, rfl, g1⟩
 | u :: suf, pre, st, s, i, h, hi, H, hP, hR => by
   subst hi
   obtain ⟨f1, f2, f3⟩ := Q8 (x := .val (encS t.kb (t.kids.map Exp.enc))) (Qf _ _) h (by omega) (Exp.cells_len u) (by decide)
   simp only [nodesExps, List.append_assoc] at hP ⊢
   obtain ⟨s1, e1, g1⟩ := H u (List.mem_cons_self) [] (fun n hn => hP n (List.mem_append_left _ hn)) st s hR
   rw [Q25]
   rw [Q15]
   cases hb : (walk step (nodesExp u) st).2 with
   | false =>
     rw [hb] at e1
     simp only [go_sem, Nat.reduceAdd, Nat.reduceLeDiff, Exp.cells_eq, f1] at e1 f2 ⊢
     simp only [go_sem, Nat.reduceAdd, Nat.reduceLeDiff, f2, e1, hb]
     exact ⟨s1, rfl, g1⟩
   | true =>
     rw [hb] at e1
     obtain ⟨s2, e2, g2⟩ := Q4Z hY t r hl HC suf (pre ++ [u]) (walk step (nodesExp u) st).1 s1 (pre.length + 1) (by simpa using h) (by simp) (fun w hw => H w (List.mem_cons_of_mem _ hw)) (fun n hn => hP n (List.mem_append_right _ hn)) (Zc hb g1)
     refine ⟨s2, ?_, g2⟩
     rw [cond_true, ← e2]
     simp only [go_sem, Nat.reduceAdd, Nat.reduceLeDiff, Exp.cells_eq, f1] at e1 f2 ⊢
     simp only [go_sem, Nat.reduceAdd, Nat.reduceLeDiff, f2, e1, f3]
theorem Qd8 (hY : YOK step R P loc) (t : Exp) (hl : t.kids.length < 2^40) (HD : WDecs step R P loc t.decs) (HC : WCases step R P loc t.cases) (HE : ∀ u ∈ t.kids, WExp step R P loc u) : WExp step R P loc t := fun r hP st s hR => by
 obtain ⟨k, a, nm, n, l, lb, c, cb, d, db⟩ := t
 simp only [Exp.kids, Exp.cases, Exp.decs] at hl HD HC HE
 simp only [nodesExp] at hP ⊢
 obtain ⟨s1, e1, g1⟩ := hY (.exp (.mk k a nm n l lb c cb d db)) r st s (hP _ (List.mem_cons_self)) hR
 rw [Q6X]
 simp only [walk]
 cases hb : (step (.exp (.mk k a nm n l lb c cb d db)) st).2 with
 | false =>
   rw [hb] at e1
   simp only [go_sem, Nat.reduceAdd, Nat.reduceLeDiff, TNode.thing, Exp.at_] at e1 ⊢
   simp only [go_sem, e1, hb]
   exact ⟨s1, rfl, g1⟩
 | true =>
   rw [hb] at e1
   rw [cond_true, Q15]
   obtain ⟨s2, e2, g2⟩ := HD (encS db (d.map Dec.enc)) true (by simp only [go_sem]) (fun n hn => hP n (List.mem_cons_of_mem _ (List.mem_append_left _ hn))) (step (.exp (.mk k a nm n l lb c cb d db)) st).1 s1 (Zc hb g1)
   cases hb2 : (walk step (nodesDecs true d) (step (.exp (.mk k a nm n l lb c cb d db)) st).1).2 with
   | false =>
     rw [hb2] at e2
     simp only [go_sem, Nat.reduceAdd, Nat.reduceLeDiff, TNode.thing, Exp.at_] at e1 ⊢
     simp only [go_sem, e1, e2, hb2]
     exact ⟨s2, rfl, g2⟩
   | true =>
     rw [hb2] at e2
     obtain ⟨s3, e3, g3⟩ := Q4Z hY (.mk k a nm n l lb c cb d db) r (by simp only [Exp.kids]; omega) HC l [] (walk step (nodesDecs true d) (step (.exp (.mk k a nm n l lb c cb d db)) st).1).1 s2 0 rfl rfl HE (fun n hn => hP n (List.mem_cons_of_mem _ (List.mem_append_right _ hn))) (Zc hb2 g2)
     refine ⟨s3, ?_, g3⟩
     simp only [Exp.cases] at e3
     rw [cond_true, ← e3]
     simp only [go_sem, Nat.reduceAdd, Nat.reduceLeDiff, TNode.thing, Exp.at_] at e1 ⊢
     simp only [go_sem, e1, e2, Exp.kids]
     rfl
theorem Q1r (hY : YOK step R P loc) (d : Dec) (x1 x2 x14 : Slot) (j : Nat) (hj : j < 2^40) (hl : d.cons.length < 2^40) (hsz : Con.sizes d.cons < 2^40) (rest : List TNode)
  (K : ∀ st s, R (st, true) s → (∀ n ∈ rest, P n) → ∃ s', QO x1 x2 [.val (.yld loc)] x14 (.val (.int .i64 (j + 1 : Nat))) s = some (.ret (.val (.bool (walk step rest st).2)), s') ∧ R (walk step rest st) s') :
  ∀ (suf pre : List Con) (st : σ) (s : St) (i : Nat), pre ++ suf = d.cons → i = pre.length → Con.sizes suf < 2^40 → (∀ n ∈ nodesCons suf ++ rest, P n) → R (st, true) s →
  ∃ s', Zg x1 x2 [.val (.yld loc)] (.val (.cp d.cells)) x14 (.val (.int .i64 j)) (.val (.int .i64 d.cons.length)) (.val (.int .i64 i)) s = some (.ret (.val (.bool (walk step (nodesCons suf ++ rest) st).2)), s') ∧ R (walk step (nodesCons suf ++ rest) st) s'
 | [], pre, st, s, i, h, hi, hz, hP, hR => by
   subst hi
   simp only [nodesCons, List.nil_append] at hP ⊢
   obtain ⟨s1, e1, g1⟩ := K st s hR hP
   refine ⟨s1, ?_, g1⟩
   rw [Q24, ← e1]; simp only [go_sem, Nat.reduceAdd, Nat.reduceLeDiff, Q9 (by simpa using h)]
   rw [wrap64 (by omega) (by omega)]; rfl
 | .mk nm a hs arg :: suf, pre, st, s, i, h, hi, hz, hP, hR => by
   subst hi
   obtain ⟨f1, f2, f3⟩ := Q8 (x := .val (encS d.nb (d.cons.map Con.enc))) (Qf _ _) h (by omega) (Con.cells_len ⟨nm, a, hs, arg⟩) (by decide)
   simp only [Con.sizes, Con.size] at hz
   simp only [nodesCons, nodesCon, List.append_assoc, List.cons_append] at hP ⊢
   obtain ⟨s1, e1, g1⟩ := hY (.con ⟨nm, a, hs, arg⟩) [] st s (hP _ (List.mem_cons_self)) hR
   rw [Q24]
   simp only [walk]
   cases hb : (step (.con ⟨nm, a, hs, arg⟩) st).2 with
   | false =>
     rw [hb] at e1
     simp only [go_sem, Nat.reduceAdd, Nat.reduceLeDiff, Dec.cells_eq, Con.cells, TNode.thing, f1] at e1 f2 ⊢
     simp only [go_sem, Nat.reduceAdd, Nat.reduceLeDiff, f2, e1, hb]
     exact ⟨s1, rfl, g1⟩
   | true =>
     rw [hb] at e1
     rw [cond_true]
     cases hs with
     | false =>
       obtain ⟨s2, e2, g2⟩ := Q1r hY d x1 x2 x14 j hj hl hsz rest K suf (pre ++ [⟨nm, a, false, arg⟩]) (step (.con ⟨nm, a, false, arg⟩) st).1 s1 (pre.length + 1) (by simpa using h) (by simp) (by omega) (fun n hn => hP n (List.mem_cons_of_mem _ hn)) (Zc hb g1)
       refine ⟨s2, ?_, g2⟩
       rw [cond_false, List.nil_append, ← e2]
       simp only [go_sem, Nat.reduceAdd, Nat.reduceLeDiff, Dec.cells_eq, Con.cells, TNode.thing, f1] at e1 f2 ⊢
       simp only [go_sem, Nat.reduceAdd, Nat.reduceLeDiff, f2, e1, f3]
     | true =>
       rw [cond_true, Q15]
       rw [cond_true] at hP
       obtain ⟨s2, e2, g2⟩ := Q4c hY _ a arg [] (Nat.le_refl _) (by omega) (fun n hn => hP n (List.mem_cons_of_mem _ (List.mem_append_left _ hn))) (step (.con ⟨nm, a, true, arg⟩) st).1 s1 (Zc hb g1)
       cases hb2 : (walk step (nodesTy a arg) (step (.con ⟨nm, a, true, arg⟩) st).1).2 with
       | false =>
         rw [hb2] at e2
         simp only [go_sem] at e2
         simp only [go_sem, Nat.reduceAdd, Nat.reduceLeDiff, Dec.cells_eq, Con.cells, TNode.thing, f1] at e1 f2 ⊢
         simp only [go_sem, Nat.reduceAdd, Nat.reduceLeDiff, f2, e1, e2, hb2]
         exact ⟨s2, rfl, g2⟩
       | true =>
         rw [hb2] at e2
         obtain ⟨s3, e3, g3⟩ := Q1r hY d x1 x2 x14 j hj hl hsz rest K suf (pre ++ [⟨nm, a, true, arg⟩]) (walk step (nodesTy a arg) (step (.con ⟨nm, a, true, arg⟩) st).1).1 s2 (pre.length + 1) (by simpa using h) (by simp) (by omega) (fun n hn => hP n (List.mem_cons_of_mem _ (List.mem_append_right _ hn))) (Zc hb2 g2)
         refine ⟨s3, ?_, g3⟩
         rw [cond_true, ← e3]
         simp only [go_sem] at e2
         simp only [go_sem, Nat.reduceAdd, Nat.reduceLeDiff, Dec.cells_eq, Con.cells, TNode.thing, f1] at e1 f2 ⊢
         simp only [go_sem, Nat.reduceAdd, Nat.reduceLeDiff, f2, e1, e2, f3]
theorem Q37 (hY : YOK step R P loc) (d : Dec) (x1 x2 x14 : Slot) (j : Nat) (hj : j < 2^40) (hl0 : d.funs.length < 2^40) (hl : d.cons.length < 2^40) (hsz : Con.sizes d.cons < 2^40) (rest : List TNode)
  (K : ∀ st s, R (st, true) s → (∀ n ∈ rest, P n) → ∃ s', QO x1 x2 [.val (.yld loc)] x14 (.val (.int .i64 (j + 1 : Nat))) s = some (.ret (.val (.bool (walk step rest st).2)), s') ∧ R (walk step rest st) s') :
  ∀ (suf pre : List Fun) (st : σ) (s : St) (i : Nat), pre ++ suf = d.funs → i = pre.length → (∀ f ∈ suf, WCases step R P loc [f.case]) → (∀ n ∈ nodesFuns suf ++ (nodesCons d.cons ++ rest), P n) → R (st, true) s →
  ∃ s', Zf x1 x2 [.val (.yld loc)] (.val (.cp d.cells)) x14 (.val (.int .i64 j)) (.val (.int .i64 d.funs.length)) (.val (.int .i64 i)) s = some (.ret (.val (.bool (walk step (nodesFuns suf ++ (nodesCons d.cons ++ rest)) st).2)), s') ∧ R (walk step (nodesFuns suf ++ (nodesCons d.cons ++ rest)) st) s'
 | [], pre, st, s, i, h, hi, H, hP, hR => by
   subst hi
   simp only [nodesFuns, List.nil_append] at hP ⊢
   obtain ⟨s1, e1, g1⟩ := Q1r hY d x1 x2 x14 j hj hl hsz rest K d.cons [] st s 0 rfl rfl hsz hP hR
   refine ⟨s1, ?_, g1⟩
   rw [Q23, ← e1]; simp only [go_sem, Nat.reduceAdd, Nat.reduceLeDiff, Dec.cells_eq, Q9 (by simpa using h)]
   rfl
 | .mk nm a c :: suf, pre, st, s, i, h, hi, H, hP, hR => by
   subst hi
   obtain ⟨f1, f2, f3⟩ := Q8 (x := .val (encS d.fb (d.funs.map Fun.enc))) (Qf _ _) h (by omega) (Fun.cells_len (.mk nm a c)) (by decide)
   simp only [nodesFuns, nodesFun, List.append_assoc, List.cons_append] at hP ⊢
   obtain ⟨s1, e1, g1⟩ := hY (.fn (.mk nm a c)) [] st s (hP _ (List.mem_cons_self)) hR
   rw [Q23]
   simp only [walk]
   cases hb : (step (.fn (.mk nm a c)) st).2 with
   | false =>
     rw [hb] at e1
     simp only [go_sem, Nat.reduceAdd, Nat.reduceLeDiff, Dec.cells_eq, TNode.thing, Fun.at_, f1] at e1 f2 ⊢
     simp only [go_sem, Nat.reduceAdd, Nat.reduceLeDiff, f2, e1, hb]
     exact ⟨s1, rfl, g1⟩
   | true =>
     rw [hb] at e1
     rw [cond_true, Q15]
     obtain ⟨s2, e2, g2⟩ := H (.mk nm a c) (List.mem_cons_self) (.sl [c.enc]) (by simp only [go_sem, Fun.case]) (fun n hn => hP n (List.mem_cons_of_mem _ (List.mem_append_left _ (by simpa [nodesCases, Fun.case] using hn)))) (step (.fn (.mk nm a c)) st).1 s1 (Zc hb g1)
     simp only [Fun.case, nodesCases, List.append_nil] at e2 g2
     cases hb2 : (walk step (nodesCase c) (step (.fn (.mk nm a c)) st).1).2 with
     | false =>
       rw [hb2] at e2
       simp only [go_sem, Nat.reduceAdd, Nat.reduceLeDiff, Dec.cells_eq, TNode.thing, Fun.at_, f1] at e1 f2 ⊢
       simp only [go_sem, Nat.reduceAdd, Nat.reduceLeDiff, f2, e1, e2, hb2]
       exact ⟨s2, rfl, g2⟩
     | true =>
       rw [hb2] at e2
       obtain ⟨s3, e3, g3⟩ := Q37 hY d x1 x2 x14 j hj hl0 hl hsz rest K suf (pre ++ [.mk nm a c]) (walk step (nodesCase c) (step (.fn (.mk nm a c)) st).1).1 s2 (pre.length + 1) (by simpa using h) (by simp) (fun w hw => H w (List.mem_cons_of_mem _ hw)) (fun n hn => hP n (List.mem_cons_of_mem _ (List.mem_append_right _ hn))) (Zc hb2 g2)
       refine ⟨s3, ?_, g3⟩
       rw [cond_true, ← e3]
       simp only [go_sem, Nat.reduceAdd, Nat.reduceLeDiff, Dec.cells_eq, TNode.thing, Fun.at_, f1] at e1 f2 ⊢
       simp only [go_sem, Nat.reduceAdd, Nat.reduceLeDiff, f2, e1, e2, f3]
theorem Q2i (hY : YOK step R P loc) (L : List Dec) (x : Slot) (hx : x.list? = some (L.map Dec.enc)) (inn : Bool) (hl : L.length < 2^40) : ∀ (suf pre : List Dec) (st : σ) (s : St) (i : Nat), pre ++ suf = L → i = pre.length → (∀ d ∈ suf, d.size < 2^40 ∧ WCases step R P loc d.case ∧ ∀ f ∈ d.funs, WCases step R P loc [f.case]) → (∀ n ∈ nodesDecs inn suf, P n) → R (st, true) s →
  ∃ s', QO x (.val (.bool inn)) [.val (.yld loc)] (.val (.int .i64 L.length)) (.val (.int .i64 i)) s = some (.ret (.val (.bool (walk step (nodesDecs inn suf) st).2)), s') ∧ R (walk step (nodesDecs inn suf) st) s'
 | [], pre, st, s, i, h, hi, H, hP, hR => by
   subst hi
   rw [Q22]; simp only [go_sem, Nat.reduceAdd, Nat.reduceLeDiff, Q9 (by simpa using h), nodesDecs, walk]
   exact ⟨s, rfl, hR⟩
 | .mk k a nm p l nb c cb f fb :: suf, pre, st, s, i, h, hi, H, hP, hR => by
   subst hi
   obtain ⟨f1, f2, f3⟩ := Q8 hx h (by omega) (Dec.cells_len (.mk k a nm p l nb c cb f fb)) (by decide)
   obtain ⟨hsz, HC, HF⟩ := H _ (List.mem_cons_self)
   simp only [Dec.case, Dec.funs, Dec.size] at hsz HC HF
   have q1 := Fun.len_sizes f
   have q2 := Con.len_sizes l
   have hlen : pre.length < L.length := by rw [← h]; simp
   simp only [nodesDecs, nodesDec, List.append_assoc, List.cons_append] at hP ⊢
   obtain ⟨s1, e1, g1⟩ := hY (.dec inn (.mk k a nm p l nb c cb f fb)) [] st s (hP _ (List.mem_cons_self)) hR
   rw [Q22]
   simp only [walk]
   cases hb : (step (.dec inn (.mk k a nm p l nb c cb f fb)) st).2 with
   | false =>
     rw [hb] at e1
     simp only [go_sem, Nat.reduceAdd, Nat.reduceLeDiff, TNode.thing, Dec.at_, f1] at e1 f2 ⊢
     simp only [go_sem, Nat.reduceAdd, Nat.reduceLeDiff, f2, e1, hb]
     exact ⟨s1, rfl, g1⟩
   | true =>
     rw [hb] at e1
     rw [cond_true, Q15]
     obtain ⟨s2, e2, g2⟩ := HC (encS cb (c.map Case.enc)) (by simp only [go_sem]) (fun n hn => hP n (List.mem_cons_of_mem _ (List.mem_append_left _ hn))) (step (.dec inn (.mk k a nm p l nb c cb f fb)) st).1 s1 (Zc hb g1)
     cases hb2 : (walk step (nodesCases c) (step (.dec inn (.mk k a nm p l nb c cb f fb)) st).1).2 with
     | false =>
       rw [hb2] at e2
       simp only [go_sem, Nat.reduceAdd, Nat.reduceLeDiff, TNode.thing, Dec.at_, f1] at e1 f2 ⊢
       simp only [go_sem, Nat.reduceAdd, Nat.reduceLeDiff, f2, e1, e2, hb2]
       exact ⟨s2, rfl, g2⟩
     | true =>
       rw [hb2] at e2
       obtain ⟨s3, e3, g3⟩ := Q37 hY (.mk k a nm p l nb c cb f fb) x (.val (.bool inn)) (.val (.int .i64 L.length)) pre.length (by omega) (by simp only [Dec.funs]; omega) (by simp only [Dec.cons]; omega) (by simp only [Dec.cons]; omega) (nodesDecs inn suf)
        (fun st s hR hP => Q2i hY L x hx inn hl suf (pre ++ [.mk k a nm p l nb c cb f fb]) st s (pre.length + 1) (by simpa using h) (by simp) (fun w hw => H w (List.mem_cons_of_mem _ hw)) hP hR)
        f [] (walk step (nodesCases c) (step (.dec inn (.mk k a nm p l nb c cb f fb)) st).1).1 s2 0 rfl rfl HF (fun n hn => hP n (List.mem_cons_of_mem _ (List.mem_append_right _ hn))) (Zc hb2 g2)
       refine ⟨s3, ?_, g3⟩
       simp only [Dec.cons] at e3
       rw [cond_true, ← e3]
       simp only [go_sem, Nat.reduceAdd, Nat.reduceLeDiff, TNode.thing, Dec.at_, f1] at e1 f2 ⊢
       simp only [go_sem, Nat.reduceAdd, Nat.reduceLeDiff, f2, e1, e2, Dec.funs]
       rfl
theorem Qgj (hY : YOK step R P loc) : ∀ m : Nat, (∀ e : Exp, e.size ≤ m → e.size < 2^40 → WExp step R P loc e) ∧ (∀ l : List Case, Case.sizes l ≤ m → Case.sizes l < 2^40 → WCases step R P loc l) ∧ (∀ l : List Dec, Dec.sizes l ≤ m → Dec.sizes l < 2^40 → WDecs step R P loc l) := by
 intro m
 induction m with
 | zero =>
   refine ⟨fun e h _ => ?_, fun l h _ v hv hP st s hR => ?_, fun l h _ v inn hv hP st s hR => ?_⟩
   ·obtain ⟨k, a, nm, n, l, lb, c, cb, d, db⟩ := e
    simp only [Exp.size] at h; omega
   ·cases l with
    | cons c l => obtain ⟨p, e⟩ := c; simp only [Case.sizes, Case.size] at h; omega
    | nil =>
      rw [Q2T]; simp only [go_sem, Nat.reduceAdd, hv]
      exact Q1S hY [] _ hv (by decide) [] [] st s 0 rfl rfl (by simp) hP hR
   ·cases l with
    | cons c l => obtain ⟨k, a, nm, p, l, nb, c, cb, f, fb⟩ := c; simp only [Dec.sizes, Dec.size] at h; omega
    | nil =>
      rw [Q36]; simp only [go_sem, Nat.reduceAdd, hv]
      exact Q2i hY [] _ hv inn (by decide) [] [] st s 0 rfl rfl (by simp) hP hR
 | succ m ih =>
   obtain ⟨ihE, ihC, ihD⟩ := ih
   refine ⟨fun e h h' => ?_, fun l h h' v hv hP st s hR => ?_, fun l h h' v inn hv hP st s hR => ?_⟩
   ·refine Qd8 hY e ?_ ?_ ?_ ?_ <;> obtain ⟨k, a, nm, n, l, lb, c, cb, d, db⟩ := e <;> simp only [Exp.size] at h h' <;> simp only [Exp.kids, Exp.cases, Exp.decs]
    ·have := Exp.len_sizes l; omega
    ·exact ihD d (by omega) (by omega)
    ·exact ihC c (by omega) (by omega)
    ·exact fun u hu => ihE u (by have := Exp.mem_sizes hu; omega) (by have := Exp.mem_sizes hu; omega)
   ·have := Case.len_sizes l
    rw [Q2T]; simp only [go_sem, Nat.reduceAdd, hv]
    refine Q1S hY l _ hv (by omega) l [] st s 0 rfl rfl (fun t ht => ?_) hP hR
    have h1 := Case.mem_sizes ht
    obtain ⟨p, e⟩ := t
    simp only [Case.size, Case.exp] at h1 ⊢
    exact ⟨ihE e (by omega) (by omega), by omega⟩
   ·have := Dec.len_sizes l
    rw [Q36]; simp only [go_sem, Nat.reduceAdd, hv]
    refine Q2i hY l _ hv inn (by omega) l [] st s 0 rfl rfl (fun t ht => ?_) hP hR
    have h1 := Dec.mem_sizes ht
    obtain ⟨k, a, nm, p, l, nb, c, cb, f, fb⟩ := t
    simp only [Dec.size, Dec.case, Dec.funs] at h1 ⊢
    refine ⟨by omega, ihC c (by omega) (by omega), fun g hg => ?_⟩
    have h2 := Fun.mem_sizes hg
    obtain ⟨nm, a, c'⟩ := g
    simp only [Fun.size, Fun.case] at h2 ⊢
    exact ihC [c'] (by simp only [Case.sizes]; omega) (by simp only [Case.sizes]; omega)
end
end Go.Proofs.YtoahliipbclneaaGreat
namespace Go.Am
open Go
def lay0 (L : List Obj) (cs : List Slot) (g : List Obj) (T : List Nat) : St := ⟨L ++ (.var cs :: g), T⟩
def lay (L : List Obj) (cs : List Slot) (g : List Obj) (o : Obj) (a : List Obj) (T : List Nat) : St := ⟨L ++ (.var cs :: (g ++ (o :: a))), T⟩
def reL (st : LSt) (p : Option AExit) : Obj → Obj
 | .loop _ _ f e ps a b => .loop st p f e ps a b
 | o => o
def isReady : Obj → Bool
 | .loop .ready none _ _ _ _ _ => true
 | _ => false
theorem Q4i {o : Obj} (h : isReady o = true) : ∃ f e ps a b, o = .loop .ready none f e ps a b := by
 cases o with
 | loop st p f e ps a b => cases st <;> cases p <;> first | exact ⟨f, e, ps, a, b, rfl⟩ | cases h
 | _ => cases h
section
variable (L : List Obj) (cs cs' : List Slot) (g a : List Obj) (o : Obj) (T : List Nat) (t : TI) (p : Option AExit) (st : LSt)
@[go_sem] theorem Qie : ldV t false (lay0 L cs g T) (.val (.vp L.length 0)) = ofSlots t (cs.take t.size) := by
  simp [ldV, lay0]
@[go_sem] theorem Qrl : ldV t false (lay L cs g o a T) (.val (.vp L.length 0)) = ofSlots t (cs.take t.size) := Qie ..
variable {cs cs'} in
@[go_sem] theorem Qeg (h : cs'.length = cs.length) : stV (lay0 L cs g T) (.val (.vp L.length 0)) cs' = some (lay0 L cs' g T) := by
  simp [stV, lay0, putAt, h]
variable {cs cs'} in
@[go_sem] theorem QbC (h : cs'.length = cs.length) : stV (lay L cs g o a T) (.val (.vp L.length 0)) cs' = some (lay L cs' g o a T) := Qeg _ _ _ h
theorem Q7u : (lay L cs g o a T).locs[L.length + 1 + g.length]? = some o := by
 simp only [lay]
 rw [List.getElem?_append_right (by omega), show L.length + 1 + g.length - L.length = g.length + 1 by omega, List.getElem?_cons_succ, List.getElem?_append_right (by omega)]
 simp
theorem Qfu (o' : Obj) : (lay L cs g o a T).locs.set (L.length + 1 + g.length) o' = L ++ (.var cs :: (g ++ (o' :: a))) := by
 simp only [lay]
 rw [List.set_append_right _ _ (by omega), show L.length + 1 + g.length - L.length = g.length + 1 by omega, List.set_cons_succ, List.set_append_right _ _ (by omega)]
 simp
variable {o} in
@[go_sem] theorem Q9D (h : isReady o = true) : beginL (L.length + 1 + g.length) (lay L cs g o a T) = some (lay L cs g (reL .busy none o) a T) := by
  obtain ⟨f, e, ps, x, y, rfl⟩ := Q4i h
  unfold beginL
  rw [Q7u]
  simp only [Qfu]; rfl
variable {o} in
theorem Q5G (h : isReady o = true) (q : LSt) (r : Option AExit) : setLoop (L.length + 1 + g.length) q r (lay L cs g (reL st p o) a T) = some (lay L cs g (reL q r o) a T) := by
 obtain ⟨f, e, ps, x, y, rfl⟩ := Q4i h
 unfold setLoop
 rw [Q7u]
 simp only [reL, Qfu]; rfl
variable {o} in
theorem Q3v (h : isReady o = true) : reL .ready none o = o := by
 obtain ⟨f, e, ps, x, y, rfl⟩ := Q4i h
 rfl
variable {o} in
theorem Qdv (h : isReady o = true) (hs : st ≠ .busy) (kn kr : St → Res) (ke : Nat → St → Res) : endX (L.length + 1 + g.length) (lay L cs g (reL st p o) a T) kn kr ke = pendX p kn kr ke (lay L cs g (reL .exhausted p o) a T) := by
 have e1 := Q5G L cs g a T p st h .exhausted p
 obtain ⟨f, e, ps, x, y, rfl⟩ := Q4i h
 simp only [reL] at e1 ⊢
 unfold endX
 rw [Q7u]
 cases st <;> first | (exact absurd rfl hs) | (simp only [e1]; rfl)
theorem Qft : (lay0 L cs g T).locs.length = L.length + 1 + g.length := by simp [lay0]; omega
theorem Qfs : (lay0 L cs g T).addLoc o = lay L cs g o [] T := by simp [lay0, lay, St.addLoc]
end
theorem addVar (s : St) (cs : List Slot) : s.addLoc (.var cs) = lay0 s.locs cs [] s.toks := rfl
theorem Grew.lay0 {s : St} (cs : List Slot) (g : List Obj) (b : List Nat) : Grew s (lay0 s.locs cs g (s.toks ++ b)) := ⟨⟨_, rfl⟩, ⟨b, rfl⟩⟩
theorem Grew.lay {s : St} (cs : List Slot) (g : List Obj) (o : Obj) (a : List Obj) (b : List Nat) : Grew s (lay s.locs cs g o a (s.toks ++ b)) := ⟨⟨_, rfl⟩, ⟨b, rfl⟩⟩
theorem Grew.layE {s : St} (cs : List Slot) (g : List Obj) (o : Obj) (a : List Obj) : Grew s (Am.lay s.locs cs g o a s.toks) := ⟨⟨_, rfl⟩, ⟨[], by simp [Am.lay]⟩⟩
theorem Grew.of_lay0 {L : List Obj} {cs : List Slot} {T : List Nat} {s : St} (h : Grew (Am.lay0 L cs [] T) s) : ∃ g b, s = Am.lay0 L cs g (T ++ b) := by
 obtain ⟨⟨a, ha⟩, b, hb⟩ := h
 refine ⟨a, b, ?_⟩
 obtain ⟨l, t⟩ := s
 simp only [Am.lay0] at ha hb ⊢
 rw [ha, hb]; simp
end Go.Am
namespace Go.Proofs.YtoahliipbclneaaGreat
open Go Go.Am
set_option linter.unusedVariables false
set_option maxRecDepth 4000
def cstep (most : Int) (n : TNode) (k : Int) : Int × Bool := (bif n.isNode then IntKind.i64.wrap (k + 1) else k, !decide ((bif n.isNode then IntKind.i64.wrap (k + 1) else k) ≥ most))
theorem Q6z (most : Int) : ∀ (l : List TNode) (n : Nat), (n : Int) < most → n + l.length < 2^62 → walk (cstep most) l n = (if ((n + countN l : Nat) : Int) < most then (((n + countN l : Nat) : Int), true) else (most, false))
 | [], n, h, _ => by simp [walk, countN, h]
 | u :: l, n, h, hb => by
   simp only [List.length_cons] at hb
   have hw : IntKind.i64.wrap ((n : Int) + 1) = ((n + 1 : Nat) : Int) := by rw [wrap64 (by omega) (by omega)]; rfl
   simp only [walk, cstep]
   cases hu : u.isNode
   ·have e : countN (u :: l) = countN l := by simp [countN, hu]
    have e2 : (!decide ((n : Int) ≥ most)) = true := by simpa using h
    simp only [cond_false, e2, cond_true, e]
    exact Q6z most l n h (by omega)
   ·have e : countN (u :: l) = countN l + 1 := by simp [countN, hu]
    simp only [cond_true, hw, e]
    by_cases h2 : ((n + 1 : Nat) : Int) < most
    ·have e2 : (!decide (((n + 1 : Nat) : Int) ≥ most)) = true := by simpa using h2
     rw [e2, cond_true, Q6z most l (n + 1) h2 (by omega), show n + 1 + countN l = n + (countN l + 1) by omega]
    ·have e2 : (!decide (((n + 1 : Nat) : Int) ≥ most)) = false := by simpa using h2
     rw [e2, cond_false, if_neg (by omega)]
     congr 1; omega
def rstep (n : TNode) (b : TBad) : TBad × Bool := bif decide (n.bad.kind = 0) then (b, true) else (n.bad, false)
theorem QaT : ∀ (l : List TNode) (b : TBad), walk rstep l b = bif l.all (fun n => decide (n.bad.kind = 0)) then (b, true) else (firstBad l, false)
 | [], b => rfl
 | u :: l, b => by
   simp only [walk, rstep, List.all_cons, firstBad]
   cases hu : decide (u.bad.kind = 0)
   ·rfl
   ·simp only [cond_true, Bool.true_and]
    exact QaT l b
theorem Q6J : ∀ l : List TNode, l.all (fun n => decide (n.bad.kind = 0)) = true → firstBad l = .zero
 | [], _ => rfl
 | u :: l, h => by
   rw [List.all_cons, Bool.and_eq_true] at h
   rw [firstBad, h.1, cond_true]
   exact Q6J l h.2
theorem Qcw (nd : TNode) (r : List AV) : boxCells (C.ti QJ) (.val (nd.thing r)) = some ((nd.thing r).cells.map .val) := by cases nd <;> simp only [go_sem, Nat.reduceAdd, TNode.thing]
theorem Qcx (nd : TNode) (r : List AV) (a b c d e f g h : Slot) : putAt [a, b, c, d, e, f, g, h] 0 ((nd.thing r).cells.map .val) = some ((nd.thing r).cells.map .val) := by cases nd <;> rfl
theorem QaF (nd : TNode) (r : List AV) : aggO (C.ti QJ) (avs (List.take 8 ((nd.thing r).cells.map .val))) = some (.val (nd.thing r)) := by cases nd <;> kernel_rfl
structure SeqOK (h : AV) (nodes : List TNode) : Prop where
 ok : ∃ g l, h = .fn g l ∧ (C.ext g).isSome = false ∧ ∀ (σ : Type) (step : TNode → σ → σ × Bool) (R : σ × Bool → St → Prop) (P : TNode → Prop) (loc : Nat), YOK step R P loc → (∀ n ∈ nodes, P n) → ∀ st s, R (st, true) s →
  ∃ v s', cw (.f g) (.yld loc :: l) s = some (.ret v, s') ∧ R (walk step nodes st) s'
theorem SeqOK.range {h : AV} {nodes : List TNode} (H : SeqOK h nodes) {σ : Type} {step : TNode → σ → σ × Bool} {R : σ × Bool → St → Prop} {P : TNode → Prop} {loc : Nat} (hY : YOK step R P loc) (hP : ∀ n ∈ nodes, P n) {st : σ} {s : St} (hR : R (st, true) s) (k : St → Res) :
  ∃ s', rangeC C cw (.val h) loc s k = k s' ∧ R (walk step nodes st) s' := by
 obtain ⟨g, l, rfl, he, H⟩ := H.ok
 obtain ⟨v, s', e, g'⟩ := H σ step R P loc hY hP st s hR
 refine ⟨s', ?_, g'⟩
 unfold rangeC
 have : tgtV (.val (.fn g l)) [] = some (.f g, l) := rfl
 rw [this]
 simp only [he, cond_false, e]
 rfl
theorem Q8a (l : List Dec) (nl : Bool) (s : St) (h : Dec.sizes l < 2^40) : ∃ q, cw (.f Q3b) [encS nl (l.map Dec.enc)] s = some (.ret (.val q), s) ∧ SeqOK q (nodesDecs false l) := by
 refine ⟨.fn Q2f [.cp [encS nl (l.map Dec.enc)]], ?_, ⟨_, _, rfl, by kernel_rfl, fun σ step R P loc hY hP st s hR => ?_⟩⟩
 ·rw [QaM]; simp only [go_sem]
 ·obtain ⟨s', e, g⟩ := (Qgj hY (Dec.sizes l)).2.2 l (Nat.le_refl _) h (encS nl (l.map Dec.enc)) false (by simp only [go_sem]) hP st s hR
  rw [Q89]; simp only [go_sem, Nat.reduceAdd, Nat.reduceLeDiff, e]
  exact ⟨_, s', rfl, g⟩
theorem QaJ {h : AV} {nodes : List TNode} (H : SeqOK h nodes) (most : Nat) (hm : 0 < most) (hl : nodes.length < 2^61) (s : St) : Ret (cw (.f Q2v) [h, .int .i64 most] s) s (.int .i64 (min (countN nodes) most : Nat)) := by
 let o := Q3N (.val (.cp [.int .i64 most])) (.val (.vp s.locs.length 0))
 have ho : isReady o = true := rfl
 let R : Int × Bool → St → Prop := fun p s1 => s1 = lay s.locs [.val (.int .i64 p.1)] [] (bif p.2 then o else reL .done (some (.exit 0)) o) [] s.toks
 have hY : YOK (cstep most) R (fun _ => True) (s.locs.length + 1) := by
  rintro nd r st s1 - rfl
  simp only [cond_true]
  have b0 := Q7u s.locs [.val (.int .i64 st)] [] [] o s.toks
  rw [List.length_nil, Nat.add_zero] at b0
  rw [cw, QbM b0]
  rw [Q9p]
  have b1 := Q9D s.locs [.val (.int .i64 st)] [] [] s.toks ho
  have b2 : ∀ n st p q r, setLoop (s.locs.length + 1) q r (lay s.locs [.val (.int .i64 n)] [] (reL st p o) [] s.toks) = _ := fun n st p q r => Q5G s.locs [.val (.int .i64 n)] [] [] s.toks p st ho q r
  simp only [List.length_nil, Nat.add_zero] at b1
  simp only [go_sem, Nat.reduceAdd, Nat.reduceLeDiff, Qcw, Qcx, QaF, b1]
  simp only [go_sem, Nat.reduceAdd, Nat.reduceLeDiff, ZS (show (Slot.val (nd.thing r)).av = some (nd.thing r) from rfl), Q6w]
  have b3 : ∀ n st p v', stV (lay s.locs [.val (.int .i64 n)] [] (reL st p o) [] s.toks) (.val (.vp s.locs.length 0)) [.val v'] = _ := fun n st p v' => QbC s.locs [] [] (reL st p o) s.toks rfl
  cases hn : nd.isNode
  ·simp only [go_sem, b2, cstep, hn]
   cases hd : decide (st ≥ (most : Int))
   ·simp only [go_sem]; exact ⟨_, rfl, by simp only [R, Bool.not_false, cond_true, Q3v ho]⟩
   ·simp only [go_sem]; exact ⟨_, rfl, by simp only [R, Bool.not_true, cond_false]⟩
  ·simp only [go_sem, b2, b3, cstep, hn]
   cases hd : decide (IntKind.i64.wrap (st + 1) ≥ (most : Int))
   ·simp only [go_sem]; exact ⟨_, rfl, by simp only [R, Bool.not_false, cond_true, Q3v ho]⟩
   ·simp only [go_sem]; exact ⟨_, rfl, by simp only [R, Bool.not_true, cond_false]⟩
 rw [Qd1]
 simp only [go_sem, Nat.reduceAdd, addVar, Qft, Qfs]
 obtain ⟨s', e, g⟩ := H.range hY (fun _ _ => trivial) (st := 0) (s := lay s.locs [.val (.int .i64 0)] [] o [] s.toks) rfl (fun s_10 => endX (s.locs.length + 1) s_10 (fun s_11 => bind1 (ldV (C.ti Q1) false s_11 (.val (.vp s.locs.length 0))) fun v16 => some (.ret v16, s_11)) (fun s_12 => some (.ret (.val (.int .i64 0)), s_12)) (fun j s_13 => bif Nat.beq j 0 then (bind1 (ldV (C.ti Q1) false s_13 (.val (.vp s.locs.length 0))) fun v16_1 => some (.ret v16_1, s_13)) else none))
 refine (congrArg (fun r => Ret r s (.int .i64 (min (countN nodes) most : Nat))) (Eq.trans rfl e)).mpr ?_
 have := Q6z most nodes 0 (by omega) (by omega)
 rw [Nat.zero_add] at this
 rw [show ((0 : Nat) : Int) = 0 from rfl] at this
 rw [this] at g
 have b2 : ∀ n st p, st ≠ .busy → ∀ kn kr ke, endX (s.locs.length + 1) (lay s.locs [.val (.int .i64 n)] [] (reL st p o) [] s.toks) kn kr ke = _ := fun n st p hs kn kr ke => Qdv s.locs [.val (.int .i64 n)] [] [] s.toks p st ho hs kn kr ke
 subst g
 by_cases hc : (countN nodes : Int) < most
 ·rw [if_pos hc]
  simp only [cond_true]
  rw [← Q3v ho, b2 _ _ _ (by intro h; cases h), show min (countN nodes) most = countN nodes by omega]
  simp only [go_sem, Nat.reduceAdd, Nat.reduceLeDiff, pendX]
  exact Ret.mk (.layE _ _ _ _)
 ·rw [if_neg hc]
  simp only [cond_false]
  rw [b2 _ _ _ (by intro h; cases h), show min (countN nodes) most = most by omega]
  simp only [go_sem, Nat.reduceAdd, Nat.reduceLeDiff, pendX, Nat.beq]
  exact Ret.mk (.layE _ _ _ _)
def NumOK (d : AV) (n : Int) : Prop := ∃ g l, d = .fn g l ∧ ∀ s, cw (.f g) l s = some (.ret (.val (.int .i64 n)), s)
theorem QhR (b : TBad) : aggO (C.ti Q7) (avs (List.take 3 (b.cells.map .val))) = some (.val b.enc) := by kernel_rfl
theorem QaN {h d : AV} {nodes : List TNode} {n : Int} (H : SeqOK h nodes) (HD : NumOK d n) (hl : nodes.length < 2^61) (hn : ∀ nd ∈ nodes, nd.name.length < 2^40) (s : St) : Ret (cw (.f Q2y) [h, d] s) s (rightN nodes n).enc := by
 rw [Qd5]
 obtain ⟨s1, e1, g1⟩ := QaJ H 8193 (by decide) hl (s.addLoc (.var (TBad.zero.cells.map .val)))
 obtain ⟨gf, gl, rfl, hd⟩ := HD
 rw [addVar] at e1 g1
 obtain ⟨g, b, rfl⟩ := g1.of_lay0
 have e0 : s.addLoc (.var (List.map .val (C.ti Q7).zero)) = lay0 s.locs (TBad.zero.cells.map .val) [] s.toks := rfl
 rw [e0]
 rw [show ((8193 : Nat) : Int) = 8193 from rfl] at e1
 have hT : ∃ c, s.toks ++ b = s.toks ++ c := ⟨b, rfl⟩
 generalize s.toks ++ b = T at *
 have k1 : ∀ v : List AV, v.length = 3 → ∀ r, Ret (some (.ret (.val r), lay0 s.locs (v.map .val) g T)) s r := fun v _ r => by obtain ⟨c, rfl⟩ := hT; exact Ret.mk (.lay0 _ _ _)
 have k2 : ∀ (v : List AV) o a r, Ret (some (.ret (.val r), lay s.locs (v.map .val) g o a T)) s r := fun v o a r => by obtain ⟨c, rfl⟩ := hT; exact Ret.mk (.lay _ _ _ _ _)
 have hst0 : ∀ x y z : AV, stV (lay0 s.locs (TBad.zero.cells.map .val) g T) (.val (.vp s.locs.length 0)) [.val x, .val y, .val z] = some (lay0 s.locs ([x, y, z].map .val) g T) := fun x y z => Qeg _ _ _ rfl
 have hst : ∀ (c : TBad) o x y z, stV (lay s.locs (c.cells.map .val) g o [] T) (.val (.vp s.locs.length 0)) [.val x, .val y, .val z] = some (lay s.locs ([x, y, z].map .val) g o [] T) := fun c o x y z => QbC _ _ _ _ _ rfl
 have hb : ∀ x y z : AV, aggO (C.ti Q7) (avs (List.take 3 ([x, y, z].map .val))) = some (.val (.agg [x, y, z])) := fun x y z => by kernel_rfl
 simp only [go_sem, Nat.reduceAdd, Nat.reduceLeDiff, e1, ZS (show (Slot.val h).av = some h from rfl), hd, hst0, hb]
 have hc : decide (((min (countN nodes) 8193 : Nat) : Int) > 8192) = decide (countN nodes > 8192) := by simp only [gt_iff_lt]; congr 1; rw [eq_iff_iff]; omega
 rw [hc]
 unfold rightN
 cases decide (countN nodes > 8192) with
 | true => simp only [go_sem]; exact k1 [_, _, _] rfl _
 | false =>
   cases decide (n > 100) with
   | true => simp only [go_sem]; exact k1 [_, _, _] rfl _
   | false =>
     simp only [go_sem, Qft, Qfs]
     let o := Q3O (.val (.vp s.locs.length 0))
     have ho : isReady o = true := rfl
     let R : TBad × Bool → St → Prop := fun p s1 => s1 = lay s.locs (p.1.cells.map .val) g (bif p.2 then o else reL .done (some .ret) o) [] T
     have hY : YOK rstep R (fun nd => nd.name.length < 2^40) (s.locs.length + 1 + g.length) := by
      rintro nd r st s1 hP rfl
      simp only [cond_true]
      rw [cw, QbM (Q7u _ _ _ _ _ _), Q9q]
      have b1 := Q9D s.locs (st.cells.map .val) g [] T ho
      have b2 : ∀ (c : List AV) st p q r, setLoop (s.locs.length + 1 + g.length) q r (lay s.locs (c.map .val) g (reL st p o) [] T) = _ := fun c st p q r => Q5G s.locs (c.map .val) g [] T p st ho q r
      simp only [go_sem, Nat.reduceAdd, Nat.reduceLeDiff, Qcw, Qcx, QaF, b1]
      simp only [go_sem, ZS (show (Slot.val (nd.thing r)).av = some (nd.thing r) from rfl), Q61 _ _ _ hP]
      unfold rstep
      generalize nd.bad = bd
      obtain ⟨k, a, nm⟩ := bd
      obtain ⟨k0, a0, nm0⟩ := st
      have b3 : ∀ p x y z x' y' z', stV (lay s.locs [.val x', .val y', .val z'] g (reL .busy p o) [] T) (.val (.vp s.locs.length 0)) [.val x, .val y, .val z] = some (lay s.locs ([x, y, z].map .val) g (reL .busy p o) [] T) := fun p x y z x' y' z' => QbC _ _ _ _ _ rfl
      have b4 := b2 [.int .i64 k0, .int .i64 a0, .str nm0]
      have b5 := b2 [.int .i64 k, .int .i64 a, .str nm]
      simp only [List.map] at b3 b4 b5
      simp only [go_sem, Nat.reduceAdd, Nat.reduceLeDiff, TBad.enc, TBad.cells, b3, b4, b5]
      cases hk : decide (k = 0)
      ·simp only [go_sem]; exact ⟨_, rfl, by simp only [R, cond_false]; rfl⟩
      ·simp only [go_sem]; exact ⟨_, rfl, by simp only [R, cond_true, Q3v ho]; rfl⟩
     obtain ⟨s', e, gR⟩ := H.range hY hn (st := TBad.zero) (s := lay s.locs (TBad.zero.cells.map .val) g o [] T) rfl (fun s_11 => endX (s.locs.length + 1 + g.length) s_11 (fun s_12 => bindS (stV s_12 (.val (.vp s.locs.length 0)) [.val (.int .i64 0), .val (.int .i64 0), .val (.str [])]) fun s_15 => bind1 (ldV (C.ti Q7) false s_15 (.val (.vp s.locs.length 0))) fun v => some (.ret v, s_15)) (fun s_13 => bind1 (ldV (C.ti Q7) false s_13 (.val (.vp s.locs.length 0))) fun v => some (.ret v, s_13)) (fun j s_14 => bif Nat.beq j 0 then ( bindS (stV s_14 (.val (.vp s.locs.length 0)) [.val (.int .i64 0), .val (.int .i64 0), .val (.str [])]) fun s_16 => bind1 (ldV (C.ti Q7) false s_16 (.val (.vp s.locs.length 0))) fun v => some (.ret v, s_16)) else ( (none : Res))))
     refine (congrArg (fun r => Ret r s (firstBad nodes).enc) e).mpr ?_
     have b2 : ∀ (c : List AV) st p, st ≠ .busy → ∀ kn kr ke, endX (s.locs.length + 1 + g.length) (lay s.locs (c.map .val) g (reL st p o) [] T) kn kr ke = _ := fun c st p hs kn kr ke => Qdv s.locs (c.map .val) g [] T p st ho hs kn kr ke
     rw [QaT] at gR
     simp only [R] at gR
     subst gR
     cases ha : nodes.all fun nd => decide (nd.bad.kind = 0)
     ·simp only [cond_false]
      rw [b2 _ _ _ (by intro h; cases h)]
      simp only [go_sem, pendX, QhR]
      exact k2 _ _ _ _
     ·simp only [cond_true]
      rw [← Q3v ho, b2 _ _ _ (by intro h; cases h), Q6J _ ha]
      simp only [go_sem, Nat.reduceAdd, Nat.reduceLeDiff, pendX, hst, hb]
      exact k2 [_, _, _] _ _ _
end Go.Proofs.YtoahliipbclneaaGreat
namespace Go.Am
open Go
def varOf (p : Pat) : List Str := bif decide (p.kind = 2) || decide (p.kind = 6) then [p.name] else []
mutual
def varsPat : Pat → List Str
 | .mk k a s n l b => varOf (.mk k a s n l b) ++ varsPats l
def varsPats : List Pat → List Str
 | [] => []
 | t :: l => varsPat t ++ varsPats l
end
theorem QhD (p : Pat) : (varOf p).length ≤ 1 := by unfold varOf; cases decide (p.kind = 2) <;> cases decide (p.kind = 6) <;> simp
mutual
theorem Qf6 : ∀ t : Pat, (varsPat t).length ≤ t.size
 | .mk k a s n l b => by have h1 := QhD (.mk k a s n l b); have h2 := Q7X l; simp only [varsPat, Pat.size, List.length_append]; omega
theorem Q7X : ∀ l : List Pat, (varsPats l).length ≤ Pat.sizes l
 | [] => Nat.le_refl _
 | t :: l => by have h1 := Qf6 t; have h2 := Q7X l; simp only [varsPats, Pat.sizes, List.length_append]; omega
end
theorem TNode.ok_name {n : TNode} (h : n.ok) : n.name.length < 2^40 := by
 cases n <;> first | exact h | exact h.1
@[go_sem] theorem Qrb (f : FuncId) (v : AV) : fnS f [.val v] = some (.val (.fn f [v])) := id rfl
theorem AccR.relay {e : TypeId} {s s1 s2 : St} {x : Slot} {l : List AV} (h : AccR e s s1 x l) (ht : s2.toks = s1.toks) (hl : ∃ a, s2.locs = s.locs ++ a) : AccR e s s2 x l := by
 obtain ⟨⟨_, b, hb⟩, h2⟩ := h
 exact ⟨⟨hl, b, by rw [ht, hb]⟩, by rw [ht]; exact h2⟩
theorem Q2E {e : TypeId} {t : TI} {s s' : St} {x y x' : Slot} (h : appendS e t s x y = some (x', s')) : s'.locs = s.locs := by
 unfold appendS at h
 split at h
 ·split at h <;> cases h
  rfl
 ·cases hz : okSz t.size ‹List AV› with
  | false => rw [hz] at h; cases h
  | true =>
    rw [hz] at h
    simp only [cond_true] at h
    split at h
    ·revert h
     cases okSz t.size ‹List AV› with
     | false => intro h; cases h
     | true =>
       intro h
       simp only [cond_true] at h
       split at h <;> cases h
       rfl
    ·revert h
     cases okSz t.size ‹List AV› with
     | false => intro h; cases h
     | true =>
       intro h
       simp only [cond_true] at h
       split at h <;> cases h
       rfl
    ·split at h <;> cases h
     rfl
    ·cases h
 ·cases h
end Go.Am
namespace Go.Proofs.YtoahliipbclneaaGreat
open Go Go.Am
set_option linter.unusedVariables false
set_option maxRecDepth 4000
section
variable (R : Nat → List Str → St → Prop) (loc : Nat)
variable {R} {loc}
end
theorem QaH (l : List Dec) (nl : Bool) (s : St) (h : Dec.sizes l < 2^26) (H : ∀ n ∈ nodesDecs false l, n.ok) : Ret (cw (.f Q4t) [encS nl (l.map Dec.enc)] s) s (rightN (nodesDecs false l) (deepDecs l 0)).enc := by
 obtain ⟨q, e1, hq⟩ := Q8a l nl s (by omega)
 have hlen := Q2c false l
 have hd : NumOK (.fn Q3a [.cp [encS nl (l.map Dec.enc)]]) (deepDecs l 0) := ⟨_, _, rfl, fun s => by
  rw [QaG]; simp only [go_sem, Nat.reduceAdd, Nat.reduceLeDiff, Q7M l nl s (by omega)]⟩
 obtain ⟨s', e2, g2⟩ := QaN hq hd (by omega) (fun nd hn => TNode.ok_name (H nd hn)) s
 revert e2
 generalize rightN _ _ = b
 intro e2
 obtain ⟨k, a, nm⟩ := b
 rw [Qd0]; simp only [go_sem, Nat.reduceAdd, Nat.reduceLeDiff, e1, ZS (show (Slot.val q).av = some q from rfl), e2, TBad.enc, TBad.cells]
 exact Ret.mk g2
end Go.Proofs.YtoahliipbclneaaGreat
namespace Go.Proofs.YtoahliipbclneaaGreat
open Go Go.Am
set_option linter.unusedVariables false
set_option maxRecDepth 4000
section
variable (L V : Nat)
end
def TySameOK (t : Ty) : Prop := ∀ u s, cw (.f Q2j) [t.enc, u.enc] s = some (.ret (.val (.bool (eqTy t u))), s)
theorem Q7U (L M : List Ty) (x y : Slot) (hx : x.list? = some (L.map Ty.enc)) (hy : y.list? = some (M.map Ty.enc)) (hl : L.length < 2^40) (he : M.length = L.length) : ∀ (suf suf' pre pre' : List Ty) (s : St) (i : Nat), pre ++ suf = L → pre' ++ suf' = M → i = pre.length → pre'.length = pre.length → (∀ t ∈ suf, TySameOK t) →
  Qy y (.val (.fn Q2j [])) x (.val (.int .i64 L.length)) (.val (.int .i64 i)) s = some (.ret (.val (.bool (eqTys suf suf'))), s)
 | [], suf', pre, pre', s, i, h, g, hi, hp, H => by
   subst hi
   have : suf' = [] := by
    have h1 := congrArg List.length h
    have h2 := congrArg List.length g
    simp only [List.length_append, List.length_nil] at h1 h2
    exact List.eq_nil_of_length_eq_zero (by omega)
   subst this
   rw [Zr]; simp only [go_sem, Q9 (by simpa using h), eqTys]
 | t :: suf, suf', pre, pre', s, i, h, g, hi, hp, H => by
   subst hi
   cases suf' with
   | nil =>
     have h1 := congrArg List.length h
     have h2 := congrArg List.length g
     simp only [List.length_append, List.length_nil, List.length_cons] at h1 h2
     omega
   | cons u suf' =>
     obtain ⟨f1, f2, f3⟩ := Q8 hx h (by omega) (Ty.cells_len t) (by decide)
     obtain ⟨-, g2, -⟩ := Q8 hy g (by omega) (Ty.cells_len u) (by decide)
     rw [hp] at g2
     have e1 := H t (List.mem_cons_self) u s
     have ih := Q7U L M x y hx hy hl he suf suf' (pre ++ [t]) (pre' ++ [u]) s (pre.length + 1) (by simpa using h) (by simpa using g) (by simp) (by simp [hp]) (fun w hw => H w (List.mem_cons_of_mem _ hw))
     rw [Zr]; simp only [go_sem, Nat.reduceAdd, Nat.reduceLeDiff, f1, f2, f3, g2, e1, ih, eqTys]
     cases eqTy t u <;> rfl
theorem Qei (L M : List Ty) (v w : AV) (hv : (Slot.val v).list? = some (L.map Ty.enc)) (hw : (Slot.val w).list? = some (M.map Ty.enc)) (hl : L.length < 2^40) (H : ∀ t ∈ L, TySameOK t) (s : St) : cw (.f QK) [v, w, .fn Q2j []] s = some (.ret (.val (.bool (eqTys L M))), s) := by
 rw [Q20]; simp only [go_sem, hv, hw, List.length_map]
 by_cases he : M.length = L.length
 ·have h1 := Q7U L M (.val v) (.val w) hv hw hl he L M [] [] s 0 rfl rfl rfl rfl H
  rw [show ((0 : Nat) : Int) = 0 from rfl] at h1
  simp only [go_sem, decide_eq_true (show ((L.length : Int) = M.length) by omega), h1]
 ·simp only [go_sem, decide_eq_false (show ¬ ((L.length : Int) = M.length) by omega), Q7l L M (fun h => he h.symm)]
theorem QaQ : ∀ (k : Nat) (t : Ty), t.size ≤ k → WideTy t → TySameOK t
 | 0, .mk _ _ _ _ _, h, _ => by simp only [Ty.size] at h; omega
 | k + 1, .mk kd n nm l nl, h, h' => fun u s => by
   obtain ⟨k', n', nm', l', nl'⟩ := u
   simp only [Ty.size] at h
   have hl := h'.len
   have e1 := fun s => Qei l l' (encS nl (l.map Ty.enc)) (encS nl' (l'.map Ty.enc)) (Qf _ _) (Qf _ _) (by omega) (fun t ht => by
    have := Ty.mem_sizes ht
    exact QaQ k t (by omega) (h'.arg ht)) s
   rw [Qgh]
   simp only [go_sem, Nat.reduceAdd, Nat.reduceLeDiff, Ty.enc, e1, eqTy]
theorem Qej (t : Ty) (h : WideTy t) : TySameOK t := QaQ _ t (Nat.le_refl _) h
end Go.Proofs.YtoahliipbclneaaGreat
namespace Go.Proofs.YtoahliipbclneaaGreat
open Go Go.Am
set_option linter.unusedVariables false
set_option maxRecDepth 4000
theorem tyAcc {A0 h0 h : List Nat} {s0 s : St} {x y : Slot} {A B : List Ty} (a : AccH Q4 s0.toks.length h s x (A.map Ty.enc)) (M : Moves A0 h0 h s0 s) (hh : ∀ k ∈ h, k < s.toks.length) (hy : y.list? = some (B.map Ty.enc)) (b : A.length + B.length < 2^30) :
  ∃ x' s', appendS Q4 (C.ti Q4) s x y = some (x', s') ∧ AccH Q4 s0.toks.length h s' x' ((A ++ B).map Ty.enc) ∧ Moves A0 h0 h s0 s' ∧ s'.locs = s.locs ∧ (∀ k ∈ h, s'.toks[k]? = s.toks[k]?) ∧ (∀ k ∈ h, k < s'.toks.length) :=
 AccH.appendF a M hh hy (fun a => by rw [Zp]; exact Ty.cells_len a) (by rw [Zp]; decide) b (by rw [Q9y]; decide)
def OwnOK (t : Ty) : Prop := ∀ s, Ret (cw (.f Q3d) [t.enc] s) s (ownTy t).enc
theorem Q8O (t : Ty) (hl : t.args.length < 2^28) (s0 : St) (z : List Slot) (hz : z.length = 4) : ∀ (suf pre A : List Ty) (x : Slot) (s : St) (i : Nat), AccH Q4 s0.toks.length [] s x (A.map Ty.enc) → Moves [] [] [] s0 s → pre ++ suf = t.args → i = pre.length → A.length = pre.length → (∀ t ∈ suf, OwnOK t) →
  Ret (Q3G z [.val (.int .i64 t.kind), .val (.int .i64 t.n), .val (.str t.name), x] (.val (encS t.nl (t.args.map Ty.enc))) (.val (.int .i64 t.args.length)) (.val (.int .i64 i)) s) s0 (Ty.mk t.kind t.n t.name (A ++ ownTys suf) true).enc
 | [], pre, A, x, s, i, hA, hM, h, hi, hn, H => by
   subst hi
   rw [Q7V]; simp only [go_sem, Nat.reduceAdd, Nat.reduceLeDiff, Q9 (by simpa using h), ZS hA.av, ownTys, hz]
   exact ⟨_, by simp only [Ty.enc]; rw [Ty.cells_mk], hM.toGrew⟩
 | u :: suf, pre, A, x, s, i, hA, hM, h, hi, hn, H => by
   subst hi
   obtain ⟨f1, f2, f3⟩ := Q8 (x := .val (encS t.nl (t.args.map Ty.enc))) (Qf _ _) h (by omega) (Ty.cells_len u) (by decide)
   obtain ⟨s1, e1, g1⟩ := H u List.mem_cons_self s
   have hlen : pre.length < t.args.length := by rw [← h]; simp
   have hM1 := hM.trans (.grew [] [] g1)
   obtain ⟨x1, s2, e2, a2, m2, -, -, -⟩ := tyAcc (A0 := []) (h0 := []) (h := []) (s0 := s0) (B := [ownTy u]) (y := .full [(ownTy u).enc]) (hA.move (.grew [] [] g1)) hM1 (by simp) rfl (by simp only [List.length_singleton]; omega)
   have ih := Q8O t hl s0 z hz suf (pre ++ [u]) (A ++ [ownTy u]) x1 s2 (pre.length + 1) a2 m2 (by simpa using h) (by simp) (by simp [hn]) (fun w hw => H w (List.mem_cons_of_mem _ hw))
   have c1 := a2.cellOk
   rw [Q7V]; simp only [go_sem, Nat.reduceAdd, Nat.reduceLeDiff, f1, f2, f3, e1, e2, c1, ownTys] at ih ⊢
   exact ih
theorem Q5J : ∀ (k : Nat) (t : Ty), t.size ≤ k → WideTy t → OwnOK t
 | 0, .mk _ _ _ _ _, h, _ => by simp only [Ty.size] at h; omega
 | k + 1, .mk kd n nm l nl, h, h' => fun s => by
   simp only [Ty.size] at h
   have hl := h'.len
   have e1 := Q8O (.mk kd n nm l nl) (by simp only [Ty.args]; omega) s [.val (.int .i64 0), .val (.int .i64 0), .val (.str []), .val .nils] rfl l [] [] (.val .nils) s 0 (.nil _ _ _ _) (.refl _ _ _) rfl rfl rfl (fun t ht => by
    have := Ty.mem_sizes ht
    exact Q5J k t (by omega) (h'.arg ht))
   rw [show ((0 : Nat) : Int) = 0 from rfl] at e1
   rw [QhB]
   simp only [go_sem, Nat.reduceAdd, Nat.reduceLeDiff, Ty.enc, Ty.kind, Ty.n, Ty.name, Ty.args, Ty.nl, ownTy] at e1 ⊢
   exact e1
theorem QaP (nm : Str) (l : List Ty) (y : Slot) (hy : y.list? = some (l.map Ty.enc)) (hl : l.length < 2^28) (s0 : St) (z : List Slot) (hz : z.length = 4) : ∀ (suf pre A : List Ty) (x : Slot) (s : St) (i : Nat), AccH Q4 s0.toks.length [] s x (A.map Ty.enc) → Moves [] [] [] s0 s → pre ++ suf = l → i = pre.length → A.length = pre.length → (∀ t ∈ suf, OwnOK t) →
  Ret (Q4Y z [.val (.int .i64 2), .val (.int .i64 0), .val (.str nm), x] y (.val (.int .i64 l.length)) (.val (.int .i64 i)) s) s0 (Ty.mk 2 0 nm (A ++ suf.map ownTy) true).enc
 | [], pre, A, x, s, i, hA, hM, h, hi, hn, H => by
   subst hi
   rw [Q8M]; simp only [go_sem, Nat.reduceAdd, Nat.reduceLeDiff, Q9 (by simpa using h), ZS hA.av, hz]
   exact ⟨_, by simp only [Ty.enc]; rw [Ty.cells_mk], hM.toGrew⟩
 | u :: suf, pre, A, x, s, i, hA, hM, h, hi, hn, H => by
   subst hi
   obtain ⟨f1, f2, f3⟩ := Q8 hy h (by omega) (Ty.cells_len u) (by decide)
   obtain ⟨s1, e1, g1⟩ := H u List.mem_cons_self s
   have hlen : pre.length < l.length := by rw [← h]; simp
   have hM1 := hM.trans (.grew [] [] g1)
   obtain ⟨x1, s2, e2, a2, m2, -, -, -⟩ := tyAcc (A0 := []) (h0 := []) (h := []) (s0 := s0) (B := [ownTy u]) (y := .full [(ownTy u).enc]) (hA.move (.grew [] [] g1)) hM1 (by simp) rfl (by simp only [List.length_singleton]; omega)
   have ih := QaP nm l y hy hl s0 z hz suf (pre ++ [u]) (A ++ [ownTy u]) x1 s2 (pre.length + 1) a2 m2 (by simpa using h) (by simp) (by simp [hn]) (fun w hw => H w (List.mem_cons_of_mem _ hw))
   have c1 := a2.cellOk
   rw [Q8M]; simp only [go_sem, Nat.reduceAdd, Nat.reduceLeDiff, f1, f2, f3, e1, e2, c1] at ih ⊢
   exact ih
theorem Q4m (nm : Str) (l : List Ty) (v : AV) (hv : (Slot.val v).list? = some (l.map Ty.enc)) (hl : l.length < 2^28) (hw : ∀ t ∈ l, WideTy t) (s : St) : Ret (cw (.f Q3c) [.str nm, v] s) s (ofTy nm l).enc := by
 have e1 := QaP nm l (.val v) hv (by omega) s [.val (.int .i64 0), .val (.int .i64 0), .val (.str []), .val .nils] rfl l [] [] (.val .nils) s 0 (.nil _ _ _ _) (.refl _ _ _) rfl rfl rfl (fun t ht => Q5J _ t (Nat.le_refl _) (hw t ht))
 rw [show ((0 : Nat) : Int) = 0 from rfl] at e1
 rw [QiM]
 simp only [go_sem, Nat.reduceAdd, Nat.reduceLeDiff, Ty.enc, hv, ofTy, List.length_map] at e1 ⊢
 exact e1
theorem Qgg (a b : Ty) (s : St) (ha : WideTy a) (hb : WideTy b) : Ret (cw (.f QaY) [a.enc, b.enc] s) s (fnTy a b).enc := by
 obtain ⟨s1, e1, g1⟩ := Q4m [45, 62] [a, b] (.sl [a.enc, b.enc]) rfl (by simp) (by simp; exact ⟨ha, hb⟩) s
 refine ⟨s1, ?_, g1⟩
 rw [QiL]
 simp only [go_sem, Nat.reduceLeDiff, Ty.enc, fnTy, ofTy] at e1 ⊢
 simp only [go_sem, Nat.reduceAdd, Nat.reduceLeDiff, e1]
section
variable {σ : Type} (to : Int → σ → Ty × σ) (g : Nat) (caps : List AV) (A : List Nat) (R : σ → List Nat → St → Prop) (P : σ → Prop)
structure ToOK : Prop where
 call : ∀ n st h s, R st h s → P (to n st).2 → ∃ s' h', cw (.f g) (.int .i64 n :: caps) s = some (.ret (.val (to n st).1.enc), s') ∧ R (to n st).2 h' s' ∧ Moves A h h' s s'
 held : ∀ st h s, R st h s → ∀ k ∈ h, k < s.toks.length
 stab : ∀ st h s s', R st h s → s'.locs = s.locs → (∀ k ∈ h, s'.toks[k]? = s.toks[k]?) → R st h s'
 mono : ∀ n st, P (to n st).2 → P st
variable {to g caps A R P}
mutual
theorem QgM (H : ToOK to g caps A R P) : ∀ (t : Ty) (st : σ), P (chTy to t st).2 → P st
 | .mk k n s l b, st, h => by
   simp only [chTy] at h
   cases hk : decide (k = 1) with
   | true => rw [hk] at h; exact H.mono n st h
   | false => rw [hk] at h; exact Q6a H l st h
theorem Q6a (H : ToOK to g caps A R P) : ∀ (l : List Ty) (st : σ), P (chTys to l st).2 → P st
 | [], st, h => h
 | t :: l, st, h => by
   simp only [chTys] at h
   exact QgM H t st (Q6a H l _ h)
end
def ChOK (to : Int → σ → Ty × σ) (g : Nat) (caps : List AV) (A : List Nat) (R : σ → List Nat → St → Prop) (P : σ → Prop) (t : Ty) : Prop :=
 ∀ st h s, R st h s → P (chTy to t st).2 → ∃ s' h', cw (.f Q1V) [t.enc, .fn g caps] s = some (.ret (.val (chTy to t st).1.enc), s') ∧ R (chTy to t st).2 h' s' ∧ Moves A h h' s s'
theorem Q62 (H : ToOK to g caps A R P) (t : Ty) (hl : t.args.length < 2^28) (s0 : St) (h0 : List Nat) (z : List Slot) (hz : z.length = 4) : ∀ (suf pre B : List Ty) (x : Slot) (st : σ) (h : List Nat) (s : St) (i : Nat), AccH Q4 s0.toks.length h s x (B.map Ty.enc) → Moves A h0 h s0 s → R st h s → P (chTys to suf st).2 → pre ++ suf = t.args → i = pre.length → B.length = pre.length → (∀ t ∈ suf, ChOK to g caps A R P t) →
  ∃ s' h', Q1E (.val (.fn g caps)) z [.val (.int .i64 t.kind), .val (.int .i64 t.n), .val (.str t.name), x] (.val (encS t.nl (t.args.map Ty.enc))) (.val (.int .i64 t.args.length)) (.val (.int .i64 i)) s = some (.ret (.val (Ty.mk t.kind t.n t.name (B ++ (chTys to suf st).1) true).enc), s') ∧ R (chTys to suf st).2 h' s' ∧ Moves A h0 h' s0 s'
 | [], pre, B, x, st, h, s, i, hA, hM, hR, hP, hpre, hi, hn, HC => by
   subst hi
   refine ⟨s, h, ?_, hR, hM⟩
   rw [Q5s]; simp only [go_sem, Nat.reduceAdd, Nat.reduceLeDiff, Q9 (by simpa using hpre), ZS hA.av, chTys, hz]
   simp only [Ty.enc]; rw [Ty.cells_mk]
 | u :: suf, pre, B, x, st, h, s, i, hA, hM, hR, hP, hpre, hi, hn, HC => by
   subst hi
   obtain ⟨f1, f2, f3⟩ := Q8 (x := .val (encS t.nl (t.args.map Ty.enc))) (Qf _ _) hpre (by omega) (Ty.cells_len u) (by decide)
   have hlen : pre.length < t.args.length := by rw [← hpre]; simp
   simp only [chTys] at hP
   obtain ⟨s1, h1, e1, r1, m1⟩ := HC u List.mem_cons_self st h s hR (Q6a H suf _ hP)
   obtain ⟨x1, s2, e2, a2, m2, l2, t2, b2⟩ := tyAcc (B := [(chTy to u st).1]) (y := .full [(chTy to u st).1.enc]) (hA.move m1) (hM.trans m1) (H.held _ _ _ r1) rfl (by simp only [List.length_singleton]; omega)
   have r2 := H.stab _ _ _ s2 r1 l2 t2
   obtain ⟨s3, h3, e3, r3, m3⟩ := Q62 H t hl s0 h0 z hz suf (pre ++ [u]) (B ++ [(chTy to u st).1]) x1 (chTy to u st).2 h1 s2 (pre.length + 1) a2 m2 r2 hP (by simpa using hpre) (by simp) (by simp [hn]) (fun w hw => HC w (List.mem_cons_of_mem _ hw))
   refine ⟨s3, h3, ?_, r3, m3⟩
   have c1 := a2.cellOk
   rw [Q5s]; simp only [go_sem, Nat.reduceAdd, Nat.reduceLeDiff, f1, f2, f3, e1, e2, c1, chTys] at e3 ⊢
   exact e3
theorem Q63 (H : ToOK to g caps A R P) : ∀ (k : Nat) (t : Ty), t.size ≤ k → WideTy t → ChOK to g caps A R P t
 | 0, .mk _ _ _ _ _, h, _ => by simp only [Ty.size] at h; omega
 | k + 1, .mk kd n nm l nl, hs, hs' => fun st h s hR hP => by
   simp only [Ty.size] at hs
   have hl := hs'.len
   simp only [chTy] at hP ⊢
   rw [Qek]
   by_cases hk : kd = 1
   ·rw [decide_eq_true hk, cond_true] at hP
    obtain ⟨s1, h1, e1, r1, m1⟩ := H.call n st h s hR hP
    refine ⟨s1, h1, ?_, by rw [decide_eq_true hk]; exact r1, m1⟩
    simp only [go_sem, Nat.reduceAdd, Nat.reduceLeDiff, Ty.enc, decide_eq_true hk, e1, cond_true]
   ·rw [decide_eq_false hk, cond_false] at hP
    obtain ⟨s1, h1, e1, r1, m1⟩ := Q62 H (.mk kd n nm l nl) (by simp only [Ty.args]; omega) s h [.val (.int .i64 0), .val (.int .i64 0), .val (.str []), .val .nils] rfl l [] [] (.val .nils) st h s 0 (.nil _ _ _ _) (.refl _ _ _) hR hP rfl rfl rfl (fun t ht => by
     have := Ty.mem_sizes ht
     exact Q63 H k t (by omega) (hs'.arg ht))
    refine ⟨s1, h1, ?_, by rw [decide_eq_false hk]; exact r1, m1⟩
    rw [show ((0 : Nat) : Int) = 0 from rfl] at e1
    simp only [go_sem, Nat.reduceAdd, Nat.reduceLeDiff, Ty.enc, Ty.kind, Ty.n, Ty.name, Ty.args, Ty.nl, decide_eq_false hk, cond_false] at e1 ⊢
    exact e1
end
theorem QiK (l : List Ty) (v : AV) (hv : (Slot.val v).list? = some (l.map Ty.enc)) (hl : l.length < 2^40) (hs : ∀ t ∈ l, WideTy t) : ToOK (toPut l) Q66 [.cp [v]] [] (fun _ h _ => h = []) (fun _ => True) where
 call n st h s hR _ := by
  subst hR
  have hvl : (ofCells (C.ti Qd) (List.take (C.ti Qd).size [v])) = some v := by
   simp only [go_sem, Nat.reduceAdd, Nat.reduceLeDiff]
  by_cases hn : 0 ≤ n ∧ n < l.length
  ·obtain ⟨m, rfl⟩ := Int.eq_ofNat_of_zero_le hn.1
   have hm : m < l.length := by omega
   obtain ⟨s1, e1, g1⟩ := Q5J _ l[m] (Nat.le_refl _) (hs _ (List.getElem_mem hm)) s
   refine ⟨s1, [], ?_, rfl, .grew _ _ g1⟩
   have hix : ixS 4 (.val v) (.val (.int .i64 (m : Int))) = some (.val (.cp l[m].cells)) := Q5T hv (v := l[m].enc) (by simp [hm]) (Ty.cells_len _) (by decide)
   have hge : decide ((m : Int) ≥ 0) = true := decide_eq_true (by omega)
   have hlt : decide ((m : Int) < (l.length : Int)) = true := decide_eq_true (by omega)
   rw [Q8N]
   simp only [go_sem, Nat.reduceAdd, Nat.reduceLeDiff, hge, hv, List.length_map, hlt, hix, Ty.enc] at e1 ⊢
   simp only [go_sem, Nat.reduceAdd, Nat.reduceLeDiff, e1, toPut, hn, and_self, if_true]
   simp [hm]
  ·refine ⟨s, [], ?_, rfl, .refl _ _ _⟩
   rw [Q8N]
   simp only [toPut, if_neg hn]
   by_cases h0 : n ≥ 0
   ·have hlt : decide (n < (l.length : Int)) = false := decide_eq_false (by omega)
    simp only [go_sem, Nat.reduceAdd, Nat.reduceLeDiff, decide_eq_true h0, hv, hlt, Ty.enc, tvar]
   ·simp only [go_sem, Nat.reduceAdd, Nat.reduceLeDiff, decide_eq_false h0, Ty.enc, tvar]
 held := by rintro _ _ _ rfl k hk; cases hk
 stab := by rintro _ _ _ _ rfl _ _; rfl
 mono := fun _ _ _ => trivial
theorem Qf4 (t : Ty) (l : List Ty) (nl : Bool) (s : St) (ht : WideTy t) (hl : l.length < 2^40) (hs : ∀ t ∈ l, WideTy t) : Ret (cw (.f Q8W) [t.enc, encS nl (l.map Ty.enc)] s) s (putTy t l).enc := by
 obtain ⟨s1, h1, e1, r1, m1⟩ := Q63 (QiK l (encS nl (l.map Ty.enc)) (Qf _ _) hl hs) _ t (Nat.le_refl _) ht () [] s rfl trivial
 subst r1
 refine ⟨s1, ?_, m1.toGrew⟩
 rw [QhA]
 simp only [go_sem, Nat.reduceLeDiff, Ty.enc, putTy] at e1 ⊢
 simp only [go_sem, Nat.reduceAdd, Nat.reduceLeDiff, e1]
def ekI (n : Int) : AV := .int .i64 n
def oldV (old : List Int) (n : Int) : Option Int := match placeI n old 0 with | some i => some (i : Int) | none => none
structure OldR (ml pl ol : Nat) (old : List Int) (h : List Nat) (s : St) : Prop where
 mp : s.locs[pl]? = some (.var [.val (.mp ml)])
 map : ∃ es c D, s.locs[ml]? = some (.map es c) ∧ MapIs ekI ekI (oldV old) es c D
 old : ∃ x, s.locs[ol]? = some (.var [x]) ∧ HeldIs Q1 s x (old.map ekI) h
end Go.Proofs.YtoahliipbclneaaGreat