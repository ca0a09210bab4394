/- The tree layer: the walker tells the nodes of a tree in order, till it is told to stop. -/
import Derived.Test.YtemfpnlpnmglfaaPTree
import Derived.Test.YtemfpnlpnmglfaaG
set_option linter.unusedVariables false
set_option linter.unusedSimpArgs false
namespace Go.Proofs.Ytemfpnlpnmglfaa
open Go Go.Am
set_option maxRecDepth 4000

section
variable {σ : Type} (step : TNode → σ → σ × Bool)

def walk : List TNode → σ → σ × Bool
  | [], st => (st, true)
  | n :: l, st => bif (step n st).2 then walk l (step n st).1 else step n st

theorem walk_app (a b : List TNode) (st : σ) : walk step (a ++ b) st = bif (walk step a st).2 then walk step b (walk step a st).1 else walk step a st := by
  induction a generalizing st with
  | nil => rfl
  | cons n a ih =>
    simp only [List.cons_append, walk]
    cases h : (step n st).2
    · simp only [cond_false, h]
    · simp only [cond_true]; exact ih _

variable (R : σ × Bool → St → Prop) (P : TNode → Prop) (loc : Nat)
def YOK : Prop := ∀ nd r st s, P nd → R (st, true) s → ∃ s', cw (.y loc) [nd.thing r] s = some (.ret (.val (.bool (step nd st).2)), s') ∧ R (step nd st) s'
def WOK (f : Nat) (args : List AV) (l : List TNode) : Prop := (∀ n ∈ l, P n) → ∀ st s, R (st, true) s → ∃ s', cw (.f f) args s = some (.ret (.val (.bool (walk step l st).2)), s') ∧ R (walk step l st) s'
abbrev wk : AV := .agg [.yld loc]

variable {step} {R} {P} {loc}

theorem on_true {st : σ × Bool} {s' : St} (hb : st.2 = true) (h : R st s') : R (st.1, true) s' := by rw [← hb]; exact h

theorem walker_types_loop (hY : YOK step R P loc) (a : Int) (t : Ty) (r : List AV) (hl : t.args.length < 2^40) : ∀ (suf pre : List Ty) (st : σ) (s : St) (i : Nat), pre ++ suf = t.args → i = pre.length → (∀ u ∈ suf, ∀ r, WOK step R P F_tree_walker_types [wk loc, .cp (u.cells ++ r), .int .i64 a] (nodesTy a u)) → (∀ n ∈ nodesTys a suf, P n) → R (st, true) s →
    ∃ s', tree_walker_types_l0 (.val (.cp (t.cells ++ r))) (.val (.int .i64 a)) [.val (.yld loc)] (.val (.int .i64 t.args.length)) (.val (.int .i64 i)) s = some (.ret (.val (.bool (walk step (nodesTys a suf) st).2)), s') ∧ R (walk step (nodesTys a suf) st) s'
  | [], pre, st, s, i, h, hi, H, hP, hR => by
    subst hi
    rw [tree_walker_types_l0_eq]; simp only [go_sem, Nat.reduceAdd, Nat.reduceLeDiff, Nat.reduceSub, Nat.reduceMul, Nat.reduceEqDiff, Int.reduceEq, Int.reduceLT, Int.reduceLE, Int.reduceAdd, Int.reduceSub, Int.reduceNeg, Int.reduceGT, Int.reduceGE, Int.reduceNe, ne_eq, not_false_eq_true, end_facts (by simpa using h), nodesTys, walk]
    exact ⟨s, rfl, hR⟩
  | u :: suf, pre, st, s, i, h, hi, H, hP, hR => by
    subst hi
    obtain ⟨f1, f2, f3⟩ := step_facts (x := .val (encS t.nl (t.args.map Ty.enc))) (list?_encS _ _) h (by omega) (Ty.cells_len u) (by decide)
    simp only [nodesTys] at hP ⊢
    obtain ⟨s1, e1, g1⟩ := H u (List.mem_cons_self) [] (fun n hn => hP n (List.mem_append_left _ hn)) st s hR
    rw [tree_walker_types_l0_eq]
    rw [walk_app]
    cases hb : (walk step (nodesTy a u) st).2 with
    | false =>
      rw [hb] at e1
      simp only [go_sem, Nat.reduceAdd, Nat.reduceLeDiff, Nat.reduceSub, Nat.reduceMul, Nat.reduceEqDiff, Int.reduceEq, Int.reduceLT, Int.reduceLE, Int.reduceAdd, Int.reduceSub, Int.reduceNeg, Int.reduceGT, Int.reduceGE, Int.reduceNe, ne_eq, not_false_eq_true, Ty.cells_eq, f1] at e1 f2 ⊢
      simp only [go_sem, Nat.reduceAdd, Nat.reduceLeDiff, Nat.reduceSub, Nat.reduceMul, Nat.reduceEqDiff, Int.reduceEq, Int.reduceLT, Int.reduceLE, Int.reduceAdd, Int.reduceSub, Int.reduceNeg, Int.reduceGT, Int.reduceGE, Int.reduceNe, ne_eq, not_false_eq_true, f2, e1, hb]
      exact ⟨s1, rfl, g1⟩
    | true =>
      rw [hb] at e1
      obtain ⟨s2, e2, g2⟩ := walker_types_loop hY a t r hl suf (pre ++ [u]) (walk step (nodesTy a u) st).1 s1 (pre.length + 1) (by simpa using h) (by simp) (fun w hw => H w (List.mem_cons_of_mem _ hw)) (fun n hn => hP n (List.mem_append_right _ hn)) (on_true hb g1)
      refine ⟨s2, ?_, g2⟩
      rw [cond_true, ← e2]
      simp only [go_sem, Nat.reduceAdd, Nat.reduceLeDiff, Nat.reduceSub, Nat.reduceMul, Nat.reduceEqDiff, Int.reduceEq, Int.reduceLT, Int.reduceLE, Int.reduceAdd, Int.reduceSub, Int.reduceNeg, Int.reduceGT, Int.reduceGE, Int.reduceNe, ne_eq, not_false_eq_true, Ty.cells_eq, f1] at e1 f2 ⊢
      simp only [go_sem, Nat.reduceAdd, Nat.reduceLeDiff, Nat.reduceSub, Nat.reduceMul, Nat.reduceEqDiff, Int.reduceEq, Int.reduceLT, Int.reduceLE, Int.reduceAdd, Int.reduceSub, Int.reduceNeg, Int.reduceGT, Int.reduceGE, Int.reduceNe, ne_eq, not_false_eq_true, f2, e1, f3]

theorem walker_types_spec (hY : YOK step R P loc) : ∀ (m : Nat) (a : Int) (t : Ty) (r : List AV), t.size ≤ m → t.size < 2^40 → WOK step R P F_tree_walker_types [wk loc, .cp (t.cells ++ r), .int .i64 a] (nodesTy a t)
  | 0, a, .mk _ _ _ _ _, _, h, _ => by simp only [Ty.size] at h; omega
  | m + 1, a, .mk k n nm l nl, r, h, h' => fun hP st s hR => by
    simp only [Ty.size] at h h'
    have hl := Ty.len_sizes l
    simp only [nodesTy] at hP ⊢
    obtain ⟨s1, e1, g1⟩ := hY (.ty (.mk k n nm l nl) a) r st s (hP _ (List.mem_cons_self)) hR
    rw [tree_walker_types_eq]
    simp only [walk]
    cases hb : (step (.ty (.mk k n nm l nl) a) st).2 with
    | false =>
      rw [hb] at e1
      simp only [go_sem, Nat.reduceAdd, Nat.reduceLeDiff, Nat.reduceSub, Nat.reduceMul, Nat.reduceEqDiff, Int.reduceEq, Int.reduceLT, Int.reduceLE, Int.reduceAdd, Int.reduceSub, Int.reduceNeg, Int.reduceGT, Int.reduceGE, Int.reduceNe, ne_eq, not_false_eq_true, TNode.thing] at e1 ⊢
      simp only [go_sem, Nat.reduceAdd, Nat.reduceLeDiff, Nat.reduceSub, Nat.reduceMul, Nat.reduceEqDiff, Int.reduceEq, Int.reduceLT, Int.reduceLE, Int.reduceAdd, Int.reduceSub, Int.reduceNeg, Int.reduceGT, Int.reduceGE, Int.reduceNe, ne_eq, not_false_eq_true, e1, hb]
      exact ⟨s1, rfl, g1⟩
    | true =>
      rw [hb] at e1
      obtain ⟨s2, e2, g2⟩ := walker_types_loop hY a (.mk k n nm l nl) r (by simp only [Ty.args]; omega) l [] (step (.ty (.mk k n nm l nl) a) st).1 s1 0 rfl rfl (fun u hu r => by have := Ty.mem_sizes hu; exact walker_types_spec hY m a u r (by omega) (by omega)) (fun n hn => hP n (List.mem_cons_of_mem _ hn)) (on_true hb g1)
      refine ⟨s2, ?_, g2⟩
      rw [cond_true, ← e2]
      simp only [go_sem, Nat.reduceAdd, Nat.reduceLeDiff, Nat.reduceSub, Nat.reduceMul, Nat.reduceEqDiff, Int.reduceEq, Int.reduceLT, Int.reduceLE, Int.reduceAdd, Int.reduceSub, Int.reduceNeg, Int.reduceGT, Int.reduceGE, Int.reduceNe, ne_eq, not_false_eq_true, TNode.thing] at e1 ⊢
      simp only [go_sem, Nat.reduceAdd, Nat.reduceLeDiff, Nat.reduceSub, Nat.reduceMul, Nat.reduceEqDiff, Int.reduceEq, Int.reduceLT, Int.reduceLE, Int.reduceAdd, Int.reduceSub, Int.reduceNeg, Int.reduceGT, Int.reduceGE, Int.reduceNe, ne_eq, not_false_eq_true, e1, Ty.args]
      rfl

theorem walker_pats_loop (hY : YOK step R P loc) (t : Pat) (r : List AV) (hl : t.kids.length < 2^40) : ∀ (suf pre : List Pat) (st : σ) (s : St) (i : Nat), pre ++ suf = t.kids → i = pre.length → (∀ u ∈ suf, ∀ r, WOK step R P F_tree_walker_pats [wk loc, .cp (u.cells ++ r)] (nodesPat u)) → (∀ n ∈ nodesPats suf, P n) → R (st, true) s →
    ∃ s', tree_walker_pats_l0 (.val (.cp (t.cells ++ r))) [.val (.yld loc)] (.val (.int .i64 t.kids.length)) (.val (.int .i64 i)) s = some (.ret (.val (.bool (walk step (nodesPats suf) st).2)), s') ∧ R (walk step (nodesPats suf) st) s'
  | [], pre, st, s, i, h, hi, H, hP, hR => by
    subst hi
    rw [tree_walker_pats_l0_eq]; simp only [go_sem, Nat.reduceAdd, Nat.reduceLeDiff, Nat.reduceSub, Nat.reduceMul, Nat.reduceEqDiff, Int.reduceEq, Int.reduceLT, Int.reduceLE, Int.reduceAdd, Int.reduceSub, Int.reduceNeg, Int.reduceGT, Int.reduceGE, Int.reduceNe, ne_eq, not_false_eq_true, end_facts (by simpa using h), nodesPats, walk]
    exact ⟨s, rfl, hR⟩
  | u :: suf, pre, st, s, i, h, hi, H, hP, hR => by
    subst hi
    obtain ⟨f1, f2, f3⟩ := step_facts (x := .val (encS t.kb (t.kids.map Pat.enc))) (list?_encS _ _) h (by omega) (Pat.cells_len u) (by decide)
    simp only [nodesPats] at hP ⊢
    obtain ⟨s1, e1, g1⟩ := H u (List.mem_cons_self) [] (fun n hn => hP n (List.mem_append_left _ hn)) st s hR
    rw [tree_walker_pats_l0_eq]
    rw [walk_app]
    cases hb : (walk step (nodesPat u) st).2 with
    | false =>
      rw [hb] at e1
      simp only [go_sem, Nat.reduceAdd, Nat.reduceLeDiff, Nat.reduceSub, Nat.reduceMul, Nat.reduceEqDiff, Int.reduceEq, Int.reduceLT, Int.reduceLE, Int.reduceAdd, Int.reduceSub, Int.reduceNeg, Int.reduceGT, Int.reduceGE, Int.reduceNe, ne_eq, not_false_eq_true, Pat.cells_eq, f1] at e1 f2 ⊢
      simp only [go_sem, Nat.reduceAdd, Nat.reduceLeDiff, Nat.reduceSub, Nat.reduceMul, Nat.reduceEqDiff, Int.reduceEq, Int.reduceLT, Int.reduceLE, Int.reduceAdd, Int.reduceSub, Int.reduceNeg, Int.reduceGT, Int.reduceGE, Int.reduceNe, ne_eq, not_false_eq_true, f2, e1, hb]
      exact ⟨s1, rfl, g1⟩
    | true =>
      rw [hb] at e1
      obtain ⟨s2, e2, g2⟩ := walker_pats_loop hY t r hl suf (pre ++ [u]) (walk step (nodesPat u) st).1 s1 (pre.length + 1) (by simpa using h) (by simp) (fun w hw => H w (List.mem_cons_of_mem _ hw)) (fun n hn => hP n (List.mem_append_right _ hn)) (on_true hb g1)
      refine ⟨s2, ?_, g2⟩
      rw [cond_true, ← e2]
      simp only [go_sem, Nat.reduceAdd, Nat.reduceLeDiff, Nat.reduceSub, Nat.reduceMul, Nat.reduceEqDiff, Int.reduceEq, Int.reduceLT, Int.reduceLE, Int.reduceAdd, Int.reduceSub, Int.reduceNeg, Int.reduceGT, Int.reduceGE, Int.reduceNe, ne_eq, not_false_eq_true, Pat.cells_eq, f1] at e1 f2 ⊢
      simp only [go_sem, Nat.reduceAdd, Nat.reduceLeDiff, Nat.reduceSub, Nat.reduceMul, Nat.reduceEqDiff, Int.reduceEq, Int.reduceLT, Int.reduceLE, Int.reduceAdd, Int.reduceSub, Int.reduceNeg, Int.reduceGT, Int.reduceGE, Int.reduceNe, ne_eq, not_false_eq_true, f2, e1, f3]

theorem walker_pats_spec (hY : YOK step R P loc) : ∀ (m : Nat) (t : Pat) (r : List AV), t.size ≤ m → t.size < 2^40 → WOK step R P F_tree_walker_pats [wk loc, .cp (t.cells ++ r)] (nodesPat t)
  | 0, .mk _ _ _ _ _ _, _, h, _ => by simp only [Pat.size] at h; omega
  | m + 1, .mk k a nm n l nl, r, h, h' => fun hP st s hR => by
    simp only [Pat.size] at h h'
    have hl := Pat.len_sizes l
    simp only [nodesPat] at hP ⊢
    obtain ⟨s1, e1, g1⟩ := hY (.pat (.mk k a nm n l nl)) r st s (hP _ (List.mem_cons_self)) hR
    rw [tree_walker_pats_eq]
    simp only [walk]
    cases hb : (step (.pat (.mk k a nm n l nl)) st).2 with
    | false =>
      rw [hb] at e1
      simp only [go_sem, Nat.reduceAdd, Nat.reduceLeDiff, Nat.reduceSub, Nat.reduceMul, Nat.reduceEqDiff, Int.reduceEq, Int.reduceLT, Int.reduceLE, Int.reduceAdd, Int.reduceSub, Int.reduceNeg, Int.reduceGT, Int.reduceGE, Int.reduceNe, ne_eq, not_false_eq_true, TNode.thing, Pat.at_] at e1 ⊢
      simp only [go_sem, Nat.reduceAdd, Nat.reduceLeDiff, Nat.reduceSub, Nat.reduceMul, Nat.reduceEqDiff, Int.reduceEq, Int.reduceLT, Int.reduceLE, Int.reduceAdd, Int.reduceSub, Int.reduceNeg, Int.reduceGT, Int.reduceGE, Int.reduceNe, ne_eq, not_false_eq_true, e1, hb]
      exact ⟨s1, rfl, g1⟩
    | true =>
      rw [hb] at e1
      obtain ⟨s2, e2, g2⟩ := walker_pats_loop hY (.mk k a nm n l nl) r (by simp only [Pat.kids]; omega) l [] (step (.pat (.mk k a nm n l nl)) st).1 s1 0 rfl rfl (fun u hu r => by have := Pat.mem_sizes hu; exact walker_pats_spec hY m u r (by omega) (by omega)) (fun n hn => hP n (List.mem_cons_of_mem _ hn)) (on_true hb g1)
      refine ⟨s2, ?_, g2⟩
      rw [cond_true, ← e2]
      simp only [go_sem, Nat.reduceAdd, Nat.reduceLeDiff, Nat.reduceSub, Nat.reduceMul, Nat.reduceEqDiff, Int.reduceEq, Int.reduceLT, Int.reduceLE, Int.reduceAdd, Int.reduceSub, Int.reduceNeg, Int.reduceGT, Int.reduceGE, Int.reduceNe, ne_eq, not_false_eq_true, TNode.thing, Pat.at_] at e1 ⊢
      simp only [go_sem, Nat.reduceAdd, Nat.reduceLeDiff, Nat.reduceSub, Nat.reduceMul, Nat.reduceEqDiff, Int.reduceEq, Int.reduceLT, Int.reduceLE, Int.reduceAdd, Int.reduceSub, Int.reduceNeg, Int.reduceGT, Int.reduceGE, Int.reduceNe, ne_eq, not_false_eq_true, e1, Pat.kids]
      rfl

def WExp (step : TNode → σ → σ × Bool) (R : σ × Bool → St → Prop) (P : TNode → Prop) (loc : Nat) (t : Exp) : Prop := ∀ r, WOK step R P F_tree_walker_exps [wk loc, .cp (t.cells ++ r)] (nodesExp t)
def WCases (step : TNode → σ → σ × Bool) (R : σ × Bool → St → Prop) (P : TNode → Prop) (loc : Nat) (l : List Case) : Prop := ∀ v, (Slot.val v).list? = some (l.map Case.enc) → WOK step R P F_tree_walker_cases [wk loc, v] (nodesCases l)
def WDecs (step : TNode → σ → σ × Bool) (R : σ × Bool → St → Prop) (P : TNode → Prop) (loc : Nat) (l : List Dec) : Prop := ∀ v inn, (Slot.val v).list? = some (l.map Dec.enc) → WOK step R P F_tree_walker_decs [wk loc, v, .bool inn] (nodesDecs inn l)

theorem walker_cases_loop (hY : YOK step R P loc) (L : List Case) (x : Slot) (hx : x.list? = some (L.map Case.enc)) (hl : L.length < 2^40) : ∀ (suf pre : List Case) (st : σ) (s : St) (i : Nat), pre ++ suf = L → i = pre.length → (∀ u ∈ suf, WExp step R P loc u.exp ∧ u.size < 2^40) → (∀ n ∈ nodesCases suf, P n) → R (st, true) s →
    ∃ s', tree_walker_cases_l0 x [.val (.yld loc)] (.val (.int .i64 L.length)) (.val (.int .i64 i)) s = some (.ret (.val (.bool (walk step (nodesCases suf) st).2)), s') ∧ R (walk step (nodesCases suf) st) s'
  | [], pre, st, s, i, h, hi, H, hP, hR => by
    subst hi
    rw [tree_walker_cases_l0_eq]; simp only [go_sem, Nat.reduceAdd, Nat.reduceLeDiff, Nat.reduceSub, Nat.reduceMul, Nat.reduceEqDiff, Int.reduceEq, Int.reduceLT, Int.reduceLE, Int.reduceAdd, Int.reduceSub, Int.reduceNeg, Int.reduceGT, Int.reduceGE, Int.reduceNe, ne_eq, not_false_eq_true, end_facts (by simpa using h), nodesCases, walk]
    exact ⟨s, rfl, hR⟩
  | .mk p e :: suf, pre, st, s, i, h, hi, H, hP, hR => by
    subst hi
    obtain ⟨f1, f2, f3⟩ := step_facts hx h (by omega) (Case.cells_len (.mk p e)) (by decide)
    simp only [nodesCases, nodesCase] at hP ⊢
    obtain ⟨hE, hsz⟩ := H (.mk p e) (List.mem_cons_self)
    simp only [Case.exp, Case.size] at hE hsz
    obtain ⟨s1, e1, g1⟩ := walker_pats_spec hY _ p e.cells (Nat.le_refl _) (by omega) (fun n hn => hP n (List.mem_append_left _ (List.mem_append_left _ hn))) st s hR
    rw [tree_walker_cases_l0_eq]
    rw [walk_app, walk_app]
    cases hb : (walk step (nodesPat p) st).2 with
    | false =>
      rw [hb] at e1
      simp only [go_sem, Nat.reduceAdd, Nat.reduceLeDiff, Nat.reduceSub, Nat.reduceMul, Nat.reduceEqDiff, Int.reduceEq, Int.reduceLT, Int.reduceLE, Int.reduceAdd, Int.reduceSub, Int.reduceNeg, Int.reduceGT, Int.reduceGE, Int.reduceNe, ne_eq, not_false_eq_true, f1, f2, e1, hb]
      exact ⟨s1, rfl, g1⟩
    | true =>
      rw [hb] at e1
      rw [cond_true]
      obtain ⟨s2, e2, g2⟩ := hE [] (fun n hn => hP n (List.mem_append_left _ (List.mem_append_right _ hn))) (walk step (nodesPat p) st).1 s1 (on_true hb g1)
      cases hb2 : (walk step (nodesExp e) (walk step (nodesPat p) st).1).2 with
      | false =>
        rw [hb2] at e2
        simp only [go_sem, Nat.reduceAdd, Nat.reduceLeDiff, Nat.reduceSub, Nat.reduceMul, Nat.reduceEqDiff, Int.reduceEq, Int.reduceLT, Int.reduceLE, Int.reduceAdd, Int.reduceSub, Int.reduceNeg, Int.reduceGT, Int.reduceGE, Int.reduceNe, ne_eq, not_false_eq_true] at e2
        simp only [go_sem, Nat.reduceAdd, Nat.reduceLeDiff, Nat.reduceSub, Nat.reduceMul, Nat.reduceEqDiff, Int.reduceEq, Int.reduceLT, Int.reduceLE, Int.reduceAdd, Int.reduceSub, Int.reduceNeg, Int.reduceGT, Int.reduceGE, Int.reduceNe, ne_eq, not_false_eq_true, f1, f2, e1, e2, hb2]
        exact ⟨s2, rfl, g2⟩
      | true =>
        rw [hb2] at e2
        obtain ⟨s3, e3, g3⟩ := walker_cases_loop hY L x hx hl suf (pre ++ [.mk p e]) (walk step (nodesExp e) (walk step (nodesPat p) st).1).1 s2 (pre.length + 1) (by simpa using h) (by simp) (fun w hw => H w (List.mem_cons_of_mem _ hw)) (fun n hn => hP n (List.mem_append_right _ hn)) (on_true hb2 g2)
        refine ⟨s3, ?_, g3⟩
        rw [cond_true, ← e3]
        simp only [go_sem, Nat.reduceAdd, Nat.reduceLeDiff, Nat.reduceSub, Nat.reduceMul, Nat.reduceEqDiff, Int.reduceEq, Int.reduceLT, Int.reduceLE, Int.reduceAdd, Int.reduceSub, Int.reduceNeg, Int.reduceGT, Int.reduceGE, Int.reduceNe, ne_eq, not_false_eq_true] at e2
        simp only [go_sem, Nat.reduceAdd, Nat.reduceLeDiff, Nat.reduceSub, Nat.reduceMul, Nat.reduceEqDiff, Int.reduceEq, Int.reduceLT, Int.reduceLE, Int.reduceAdd, Int.reduceSub, Int.reduceNeg, Int.reduceGT, Int.reduceGE, Int.reduceNe, ne_eq, not_false_eq_true, f1, f2, e1, e2, f3]

theorem walker_exps_loop (hY : YOK step R P loc) (t : Exp) (r : List AV) (hl : t.kids.length < 2^40) (HC : WCases step R P loc t.cases) : ∀ (suf pre : List Exp) (st : σ) (s : St) (i : Nat), pre ++ suf = t.kids → i = pre.length → (∀ u ∈ suf, WExp step R P loc u) → (∀ n ∈ nodesExps suf ++ nodesCases t.cases, P n) → R (st, true) s →
    ∃ s', tree_walker_exps_l0 (.val (.cp (t.cells ++ r))) [.val (.yld loc)] (.val (.int .i64 t.kids.length)) (.val (.int .i64 i)) s = some (.ret (.val (.bool (walk step (nodesExps suf ++ nodesCases t.cases) st).2)), s') ∧ R (walk step (nodesExps suf ++ nodesCases t.cases) st) s'
  | [], pre, st, s, i, h, hi, H, hP, hR => by
    subst hi
    simp only [nodesExps, List.nil_append] at hP ⊢
    obtain ⟨s1, e1, g1⟩ := HC (encS t.cb (t.cases.map Case.enc)) (by simp only [go_sem, Nat.reduceAdd, Nat.reduceLeDiff, Nat.reduceSub, Nat.reduceMul, Nat.reduceEqDiff, Int.reduceEq, Int.reduceLT, Int.reduceLE, Int.reduceAdd, Int.reduceSub, Int.reduceNeg, Int.reduceGT, Int.reduceGE, Int.reduceNe, ne_eq, not_false_eq_true]) hP st s hR
    rw [tree_walker_exps_l0_eq]; simp only [go_sem, Nat.reduceAdd, Nat.reduceLeDiff, Nat.reduceSub, Nat.reduceMul, Nat.reduceEqDiff, Int.reduceEq, Int.reduceLT, Int.reduceLE, Int.reduceAdd, Int.reduceSub, Int.reduceNeg, Int.reduceGT, Int.reduceGE, Int.reduceNe, ne_eq, not_false_eq_true, Exp.cells_eq, end_facts (by simpa using h), e1]
    exact ⟨s1, rfl, g1⟩
  | u :: suf, pre, st, s, i, h, hi, H, hP, hR => by
    subst hi
    obtain ⟨f1, f2, f3⟩ := step_facts (x := .val (encS t.kb (t.kids.map Exp.enc))) (list?_encS _ _) h (by omega) (Exp.cells_len u) (by decide)
    simp only [nodesExps, List.append_assoc] at hP ⊢
    obtain ⟨s1, e1, g1⟩ := H u (List.mem_cons_self) [] (fun n hn => hP n (List.mem_append_left _ hn)) st s hR
    rw [tree_walker_exps_l0_eq]
    rw [walk_app]
    cases hb : (walk step (nodesExp u) st).2 with
    | false =>
      rw [hb] at e1
      simp only [go_sem, Nat.reduceAdd, Nat.reduceLeDiff, Nat.reduceSub, Nat.reduceMul, Nat.reduceEqDiff, Int.reduceEq, Int.reduceLT, Int.reduceLE, Int.reduceAdd, Int.reduceSub, Int.reduceNeg, Int.reduceGT, Int.reduceGE, Int.reduceNe, ne_eq, not_false_eq_true, Exp.cells_eq, f1] at e1 f2 ⊢
      simp only [go_sem, Nat.reduceAdd, Nat.reduceLeDiff, Nat.reduceSub, Nat.reduceMul, Nat.reduceEqDiff, Int.reduceEq, Int.reduceLT, Int.reduceLE, Int.reduceAdd, Int.reduceSub, Int.reduceNeg, Int.reduceGT, Int.reduceGE, Int.reduceNe, ne_eq, not_false_eq_true, f2, e1, hb]
      exact ⟨s1, rfl, g1⟩
    | true =>
      rw [hb] at e1
      obtain ⟨s2, e2, g2⟩ := walker_exps_loop hY t r hl HC suf (pre ++ [u]) (walk step (nodesExp u) st).1 s1 (pre.length + 1) (by simpa using h) (by simp) (fun w hw => H w (List.mem_cons_of_mem _ hw)) (fun n hn => hP n (List.mem_append_right _ hn)) (on_true hb g1)
      refine ⟨s2, ?_, g2⟩
      rw [cond_true, ← e2]
      simp only [go_sem, Nat.reduceAdd, Nat.reduceLeDiff, Nat.reduceSub, Nat.reduceMul, Nat.reduceEqDiff, Int.reduceEq, Int.reduceLT, Int.reduceLE, Int.reduceAdd, Int.reduceSub, Int.reduceNeg, Int.reduceGT, Int.reduceGE, Int.reduceNe, ne_eq, not_false_eq_true, Exp.cells_eq, f1] at e1 f2 ⊢
      simp only [go_sem, Nat.reduceAdd, Nat.reduceLeDiff, Nat.reduceSub, Nat.reduceMul, Nat.reduceEqDiff, Int.reduceEq, Int.reduceLT, Int.reduceLE, Int.reduceAdd, Int.reduceSub, Int.reduceNeg, Int.reduceGT, Int.reduceGE, Int.reduceNe, ne_eq, not_false_eq_true, f2, e1, f3]

theorem walker_exp_of (hY : YOK step R P loc) (t : Exp) (hl : t.kids.length < 2^40) (HD : WDecs step R P loc t.decs) (HC : WCases step R P loc t.cases) (HE : ∀ u ∈ t.kids, WExp step R P loc u) : WExp step R P loc t := fun r hP st s hR => by
  obtain ⟨k, a, nm, n, l, lb, c, cb, d, db⟩ := t
  simp only [Exp.kids, Exp.cases, Exp.decs] at hl HD HC HE
  simp only [nodesExp] at hP ⊢
  obtain ⟨s1, e1, g1⟩ := hY (.exp (.mk k a nm n l lb c cb d db)) r st s (hP _ (List.mem_cons_self)) hR
  rw [tree_walker_exps_eq]
  simp only [walk]
  cases hb : (step (.exp (.mk k a nm n l lb c cb d db)) st).2 with
  | false =>
    rw [hb] at e1
    simp only [go_sem, Nat.reduceAdd, Nat.reduceLeDiff, Nat.reduceSub, Nat.reduceMul, Nat.reduceEqDiff, Int.reduceEq, Int.reduceLT, Int.reduceLE, Int.reduceAdd, Int.reduceSub, Int.reduceNeg, Int.reduceGT, Int.reduceGE, Int.reduceNe, ne_eq, not_false_eq_true, TNode.thing, Exp.at_] at e1 ⊢
    simp only [go_sem, Nat.reduceAdd, Nat.reduceLeDiff, Nat.reduceSub, Nat.reduceMul, Nat.reduceEqDiff, Int.reduceEq, Int.reduceLT, Int.reduceLE, Int.reduceAdd, Int.reduceSub, Int.reduceNeg, Int.reduceGT, Int.reduceGE, Int.reduceNe, ne_eq, not_false_eq_true, e1, hb]
    exact ⟨s1, rfl, g1⟩
  | true =>
    rw [hb] at e1
    rw [cond_true, walk_app]
    obtain ⟨s2, e2, g2⟩ := HD (encS db (d.map Dec.enc)) true (by simp only [go_sem, Nat.reduceAdd, Nat.reduceLeDiff, Nat.reduceSub, Nat.reduceMul, Nat.reduceEqDiff, Int.reduceEq, Int.reduceLT, Int.reduceLE, Int.reduceAdd, Int.reduceSub, Int.reduceNeg, Int.reduceGT, Int.reduceGE, Int.reduceNe, ne_eq, not_false_eq_true]) (fun n hn => hP n (List.mem_cons_of_mem _ (List.mem_append_left _ hn))) (step (.exp (.mk k a nm n l lb c cb d db)) st).1 s1 (on_true hb g1)
    cases hb2 : (walk step (nodesDecs true d) (step (.exp (.mk k a nm n l lb c cb d db)) st).1).2 with
    | false =>
      rw [hb2] at e2
      simp only [go_sem, Nat.reduceAdd, Nat.reduceLeDiff, Nat.reduceSub, Nat.reduceMul, Nat.reduceEqDiff, Int.reduceEq, Int.reduceLT, Int.reduceLE, Int.reduceAdd, Int.reduceSub, Int.reduceNeg, Int.reduceGT, Int.reduceGE, Int.reduceNe, ne_eq, not_false_eq_true, TNode.thing, Exp.at_] at e1 ⊢
      simp only [go_sem, Nat.reduceAdd, Nat.reduceLeDiff, Nat.reduceSub, Nat.reduceMul, Nat.reduceEqDiff, Int.reduceEq, Int.reduceLT, Int.reduceLE, Int.reduceAdd, Int.reduceSub, Int.reduceNeg, Int.reduceGT, Int.reduceGE, Int.reduceNe, ne_eq, not_false_eq_true, e1, e2, hb2]
      exact ⟨s2, rfl, g2⟩
    | true =>
      rw [hb2] at e2
      obtain ⟨s3, e3, g3⟩ := walker_exps_loop hY (.mk k a nm n l lb c cb d db) r (by simp only [Exp.kids]; omega) HC l [] (walk step (nodesDecs true d) (step (.exp (.mk k a nm n l lb c cb d db)) st).1).1 s2 0 rfl rfl HE (fun n hn => hP n (List.mem_cons_of_mem _ (List.mem_append_right _ hn))) (on_true hb2 g2)
      refine ⟨s3, ?_, g3⟩
      simp only [Exp.cases] at e3
      rw [cond_true, ← e3]
      simp only [go_sem, Nat.reduceAdd, Nat.reduceLeDiff, Nat.reduceSub, Nat.reduceMul, Nat.reduceEqDiff, Int.reduceEq, Int.reduceLT, Int.reduceLE, Int.reduceAdd, Int.reduceSub, Int.reduceNeg, Int.reduceGT, Int.reduceGE, Int.reduceNe, ne_eq, not_false_eq_true, TNode.thing, Exp.at_] at e1 ⊢
      simp only [go_sem, Nat.reduceAdd, Nat.reduceLeDiff, Nat.reduceSub, Nat.reduceMul, Nat.reduceEqDiff, Int.reduceEq, Int.reduceLT, Int.reduceLE, Int.reduceAdd, Int.reduceSub, Int.reduceNeg, Int.reduceGT, Int.reduceGE, Int.reduceNe, ne_eq, not_false_eq_true, e1, e2, Exp.kids]
      rfl

theorem walker_decs_l2_loop (hY : YOK step R P loc) (d : Dec) (x1 x2 x14 : Slot) (j : Nat) (hj : j < 2^40) (hl : d.cons.length < 2^40) (hsz : Con.sizes d.cons < 2^40) (rest : List TNode)
    (K : ∀ st s, R (st, true) s → (∀ n ∈ rest, P n) → ∃ s', tree_walker_decs_l0 x1 x2 [.val (.yld loc)] x14 (.val (.int .i64 (j + 1 : Nat))) s = some (.ret (.val (.bool (walk step rest st).2)), s') ∧ R (walk step rest st) s') :
    ∀ (suf pre : List Con) (st : σ) (s : St) (i : Nat), pre ++ suf = d.cons → i = pre.length → Con.sizes suf < 2^40 → (∀ n ∈ nodesCons suf ++ rest, P n) → R (st, true) s →
    ∃ s', tree_walker_decs_l2 x1 x2 [.val (.yld loc)] (.val (.cp d.cells)) x14 (.val (.int .i64 j)) (.val (.int .i64 d.cons.length)) (.val (.int .i64 i)) s = some (.ret (.val (.bool (walk step (nodesCons suf ++ rest) st).2)), s') ∧ R (walk step (nodesCons suf ++ rest) st) s'
  | [], pre, st, s, i, h, hi, hz, hP, hR => by
    subst hi
    simp only [nodesCons, List.nil_append] at hP ⊢
    obtain ⟨s1, e1, g1⟩ := K st s hR hP
    refine ⟨s1, ?_, g1⟩
    rw [tree_walker_decs_l2_eq, ← e1]; simp only [go_sem, Nat.reduceAdd, Nat.reduceLeDiff, Nat.reduceSub, Nat.reduceMul, Nat.reduceEqDiff, Int.reduceEq, Int.reduceLT, Int.reduceLE, Int.reduceAdd, Int.reduceSub, Int.reduceNeg, Int.reduceGT, Int.reduceGE, Int.reduceNe, ne_eq, not_false_eq_true, end_facts (by simpa using h)]
    rw [wrap64 (by omega) (by omega)]; rfl
  | .mk nm a hs arg :: suf, pre, st, s, i, h, hi, hz, hP, hR => by
    subst hi
    obtain ⟨f1, f2, f3⟩ := step_facts (x := .val (encS d.nb (d.cons.map Con.enc))) (list?_encS _ _) h (by omega) (Con.cells_len ⟨nm, a, hs, arg⟩) (by decide)
    simp only [Con.sizes, Con.size] at hz
    simp only [nodesCons, nodesCon, List.append_assoc, List.cons_append] at hP ⊢
    obtain ⟨s1, e1, g1⟩ := hY (.con ⟨nm, a, hs, arg⟩) [] st s (hP _ (List.mem_cons_self)) hR
    rw [tree_walker_decs_l2_eq]
    simp only [walk]
    cases hb : (step (.con ⟨nm, a, hs, arg⟩) st).2 with
    | false =>
      rw [hb] at e1
      simp only [go_sem, Nat.reduceAdd, Nat.reduceLeDiff, Nat.reduceSub, Nat.reduceMul, Nat.reduceEqDiff, Int.reduceEq, Int.reduceLT, Int.reduceLE, Int.reduceAdd, Int.reduceSub, Int.reduceNeg, Int.reduceGT, Int.reduceGE, Int.reduceNe, ne_eq, not_false_eq_true, Dec.cells_eq, Con.cells, TNode.thing, f1] at e1 f2 ⊢
      simp only [go_sem, Nat.reduceAdd, Nat.reduceLeDiff, Nat.reduceSub, Nat.reduceMul, Nat.reduceEqDiff, Int.reduceEq, Int.reduceLT, Int.reduceLE, Int.reduceAdd, Int.reduceSub, Int.reduceNeg, Int.reduceGT, Int.reduceGE, Int.reduceNe, ne_eq, not_false_eq_true, f2, e1, hb]
      exact ⟨s1, rfl, g1⟩
    | true =>
      rw [hb] at e1
      rw [cond_true]
      cases hs with
      | false =>
        obtain ⟨s2, e2, g2⟩ := walker_decs_l2_loop hY d x1 x2 x14 j hj hl hsz rest K suf (pre ++ [⟨nm, a, false, arg⟩]) (step (.con ⟨nm, a, false, arg⟩) st).1 s1 (pre.length + 1) (by simpa using h) (by simp) (by omega) (fun n hn => hP n (List.mem_cons_of_mem _ hn)) (on_true hb g1)
        refine ⟨s2, ?_, g2⟩
        rw [cond_false, List.nil_append, ← e2]
        simp only [go_sem, Nat.reduceAdd, Nat.reduceLeDiff, Nat.reduceSub, Nat.reduceMul, Nat.reduceEqDiff, Int.reduceEq, Int.reduceLT, Int.reduceLE, Int.reduceAdd, Int.reduceSub, Int.reduceNeg, Int.reduceGT, Int.reduceGE, Int.reduceNe, ne_eq, not_false_eq_true, Dec.cells_eq, Con.cells, TNode.thing, f1] at e1 f2 ⊢
        simp only [go_sem, Nat.reduceAdd, Nat.reduceLeDiff, Nat.reduceSub, Nat.reduceMul, Nat.reduceEqDiff, Int.reduceEq, Int.reduceLT, Int.reduceLE, Int.reduceAdd, Int.reduceSub, Int.reduceNeg, Int.reduceGT, Int.reduceGE, Int.reduceNe, ne_eq, not_false_eq_true, f2, e1, f3]
      | true =>
        rw [cond_true, walk_app]
        rw [cond_true] at hP
        obtain ⟨s2, e2, g2⟩ := walker_types_spec hY _ a arg [] (Nat.le_refl _) (by omega) (fun n hn => hP n (List.mem_cons_of_mem _ (List.mem_append_left _ hn))) (step (.con ⟨nm, a, true, arg⟩) st).1 s1 (on_true hb g1)
        cases hb2 : (walk step (nodesTy a arg) (step (.con ⟨nm, a, true, arg⟩) st).1).2 with
        | false =>
          rw [hb2] at e2
          simp only [go_sem, Nat.reduceAdd, Nat.reduceLeDiff, Nat.reduceSub, Nat.reduceMul, Nat.reduceEqDiff, Int.reduceEq, Int.reduceLT, Int.reduceLE, Int.reduceAdd, Int.reduceSub, Int.reduceNeg, Int.reduceGT, Int.reduceGE, Int.reduceNe, ne_eq, not_false_eq_true] at e2
          simp only [go_sem, Nat.reduceAdd, Nat.reduceLeDiff, Nat.reduceSub, Nat.reduceMul, Nat.reduceEqDiff, Int.reduceEq, Int.reduceLT, Int.reduceLE, Int.reduceAdd, Int.reduceSub, Int.reduceNeg, Int.reduceGT, Int.reduceGE, Int.reduceNe, ne_eq, not_false_eq_true, Dec.cells_eq, Con.cells, TNode.thing, f1] at e1 f2 ⊢
          simp only [go_sem, Nat.reduceAdd, Nat.reduceLeDiff, Nat.reduceSub, Nat.reduceMul, Nat.reduceEqDiff, Int.reduceEq, Int.reduceLT, Int.reduceLE, Int.reduceAdd, Int.reduceSub, Int.reduceNeg, Int.reduceGT, Int.reduceGE, Int.reduceNe, ne_eq, not_false_eq_true, f2, e1, e2, hb2]
          exact ⟨s2, rfl, g2⟩
        | true =>
          rw [hb2] at e2
          obtain ⟨s3, e3, g3⟩ := walker_decs_l2_loop hY d x1 x2 x14 j hj hl hsz rest K suf (pre ++ [⟨nm, a, true, arg⟩]) (walk step (nodesTy a arg) (step (.con ⟨nm, a, true, arg⟩) st).1).1 s2 (pre.length + 1) (by simpa using h) (by simp) (by omega) (fun n hn => hP n (List.mem_cons_of_mem _ (List.mem_append_right _ hn))) (on_true hb2 g2)
          refine ⟨s3, ?_, g3⟩
          rw [cond_true, ← e3]
          simp only [go_sem, Nat.reduceAdd, Nat.reduceLeDiff, Nat.reduceSub, Nat.reduceMul, Nat.reduceEqDiff, Int.reduceEq, Int.reduceLT, Int.reduceLE, Int.reduceAdd, Int.reduceSub, Int.reduceNeg, Int.reduceGT, Int.reduceGE, Int.reduceNe, ne_eq, not_false_eq_true] at e2
          simp only [go_sem, Nat.reduceAdd, Nat.reduceLeDiff, Nat.reduceSub, Nat.reduceMul, Nat.reduceEqDiff, Int.reduceEq, Int.reduceLT, Int.reduceLE, Int.reduceAdd, Int.reduceSub, Int.reduceNeg, Int.reduceGT, Int.reduceGE, Int.reduceNe, ne_eq, not_false_eq_true, Dec.cells_eq, Con.cells, TNode.thing, f1] at e1 f2 ⊢
          simp only [go_sem, Nat.reduceAdd, Nat.reduceLeDiff, Nat.reduceSub, Nat.reduceMul, Nat.reduceEqDiff, Int.reduceEq, Int.reduceLT, Int.reduceLE, Int.reduceAdd, Int.reduceSub, Int.reduceNeg, Int.reduceGT, Int.reduceGE, Int.reduceNe, ne_eq, not_false_eq_true, f2, e1, e2, f3]

theorem walker_decs_l1_loop (hY : YOK step R P loc) (d : Dec) (x1 x2 x14 : Slot) (j : Nat) (hj : j < 2^40) (hl0 : d.funs.length < 2^40) (hl : d.cons.length < 2^40) (hsz : Con.sizes d.cons < 2^40) (rest : List TNode)
    (K : ∀ st s, R (st, true) s → (∀ n ∈ rest, P n) → ∃ s', tree_walker_decs_l0 x1 x2 [.val (.yld loc)] x14 (.val (.int .i64 (j + 1 : Nat))) s = some (.ret (.val (.bool (walk step rest st).2)), s') ∧ R (walk step rest st) s') :
    ∀ (suf pre : List Fun) (st : σ) (s : St) (i : Nat), pre ++ suf = d.funs → i = pre.length → (∀ f ∈ suf, WCases step R P loc [f.case]) → (∀ n ∈ nodesFuns suf ++ (nodesCons d.cons ++ rest), P n) → R (st, true) s →
    ∃ s', tree_walker_decs_l1 x1 x2 [.val (.yld loc)] (.val (.cp d.cells)) x14 (.val (.int .i64 j)) (.val (.int .i64 d.funs.length)) (.val (.int .i64 i)) s = some (.ret (.val (.bool (walk step (nodesFuns suf ++ (nodesCons d.cons ++ rest)) st).2)), s') ∧ R (walk step (nodesFuns suf ++ (nodesCons d.cons ++ rest)) st) s'
  | [], pre, st, s, i, h, hi, H, hP, hR => by
    subst hi
    simp only [nodesFuns, List.nil_append] at hP ⊢
    obtain ⟨s1, e1, g1⟩ := walker_decs_l2_loop hY d x1 x2 x14 j hj hl hsz rest K d.cons [] st s 0 rfl rfl hsz hP hR
    refine ⟨s1, ?_, g1⟩
    rw [tree_walker_decs_l1_eq, ← e1]; simp only [go_sem, Nat.reduceAdd, Nat.reduceLeDiff, Nat.reduceSub, Nat.reduceMul, Nat.reduceEqDiff, Int.reduceEq, Int.reduceLT, Int.reduceLE, Int.reduceAdd, Int.reduceSub, Int.reduceNeg, Int.reduceGT, Int.reduceGE, Int.reduceNe, ne_eq, not_false_eq_true, Dec.cells_eq, end_facts (by simpa using h)]
    rfl
  | .mk nm a c :: suf, pre, st, s, i, h, hi, H, hP, hR => by
    subst hi
    obtain ⟨f1, f2, f3⟩ := step_facts (x := .val (encS d.fb (d.funs.map Fun.enc))) (list?_encS _ _) h (by omega) (Fun.cells_len (.mk nm a c)) (by decide)
    simp only [nodesFuns, nodesFun, List.append_assoc, List.cons_append] at hP ⊢
    obtain ⟨s1, e1, g1⟩ := hY (.fn (.mk nm a c)) [] st s (hP _ (List.mem_cons_self)) hR
    rw [tree_walker_decs_l1_eq]
    simp only [walk]
    cases hb : (step (.fn (.mk nm a c)) st).2 with
    | false =>
      rw [hb] at e1
      simp only [go_sem, Nat.reduceAdd, Nat.reduceLeDiff, Nat.reduceSub, Nat.reduceMul, Nat.reduceEqDiff, Int.reduceEq, Int.reduceLT, Int.reduceLE, Int.reduceAdd, Int.reduceSub, Int.reduceNeg, Int.reduceGT, Int.reduceGE, Int.reduceNe, ne_eq, not_false_eq_true, Dec.cells_eq, TNode.thing, Fun.at_, f1] at e1 f2 ⊢
      simp only [go_sem, Nat.reduceAdd, Nat.reduceLeDiff, Nat.reduceSub, Nat.reduceMul, Nat.reduceEqDiff, Int.reduceEq, Int.reduceLT, Int.reduceLE, Int.reduceAdd, Int.reduceSub, Int.reduceNeg, Int.reduceGT, Int.reduceGE, Int.reduceNe, ne_eq, not_false_eq_true, f2, e1, hb]
      exact ⟨s1, rfl, g1⟩
    | true =>
      rw [hb] at e1
      rw [cond_true, walk_app]
      obtain ⟨s2, e2, g2⟩ := H (.mk nm a c) (List.mem_cons_self) (.sl [c.enc]) (by simp only [go_sem, Nat.reduceAdd, Nat.reduceLeDiff, Nat.reduceSub, Nat.reduceMul, Nat.reduceEqDiff, Int.reduceEq, Int.reduceLT, Int.reduceLE, Int.reduceAdd, Int.reduceSub, Int.reduceNeg, Int.reduceGT, Int.reduceGE, Int.reduceNe, ne_eq, not_false_eq_true, Fun.case]) (fun n hn => hP n (List.mem_cons_of_mem _ (List.mem_append_left _ (by simpa [nodesCases, Fun.case] using hn)))) (step (.fn (.mk nm a c)) st).1 s1 (on_true hb g1)
      simp only [Fun.case, nodesCases, List.append_nil] at e2 g2
      cases hb2 : (walk step (nodesCase c) (step (.fn (.mk nm a c)) st).1).2 with
      | false =>
        rw [hb2] at e2
        simp only [go_sem, Nat.reduceAdd, Nat.reduceLeDiff, Nat.reduceSub, Nat.reduceMul, Nat.reduceEqDiff, Int.reduceEq, Int.reduceLT, Int.reduceLE, Int.reduceAdd, Int.reduceSub, Int.reduceNeg, Int.reduceGT, Int.reduceGE, Int.reduceNe, ne_eq, not_false_eq_true, Dec.cells_eq, TNode.thing, Fun.at_, f1] at e1 f2 ⊢
        simp only [go_sem, Nat.reduceAdd, Nat.reduceLeDiff, Nat.reduceSub, Nat.reduceMul, Nat.reduceEqDiff, Int.reduceEq, Int.reduceLT, Int.reduceLE, Int.reduceAdd, Int.reduceSub, Int.reduceNeg, Int.reduceGT, Int.reduceGE, Int.reduceNe, ne_eq, not_false_eq_true, f2, e1, e2, hb2]
        exact ⟨s2, rfl, g2⟩
      | true =>
        rw [hb2] at e2
        obtain ⟨s3, e3, g3⟩ := walker_decs_l1_loop hY d x1 x2 x14 j hj hl0 hl hsz rest K suf (pre ++ [.mk nm a c]) (walk step (nodesCase c) (step (.fn (.mk nm a c)) st).1).1 s2 (pre.length + 1) (by simpa using h) (by simp) (fun w hw => H w (List.mem_cons_of_mem _ hw)) (fun n hn => hP n (List.mem_cons_of_mem _ (List.mem_append_right _ hn))) (on_true hb2 g2)
        refine ⟨s3, ?_, g3⟩
        rw [cond_true, ← e3]
        simp only [go_sem, Nat.reduceAdd, Nat.reduceLeDiff, Nat.reduceSub, Nat.reduceMul, Nat.reduceEqDiff, Int.reduceEq, Int.reduceLT, Int.reduceLE, Int.reduceAdd, Int.reduceSub, Int.reduceNeg, Int.reduceGT, Int.reduceGE, Int.reduceNe, ne_eq, not_false_eq_true, Dec.cells_eq, TNode.thing, Fun.at_, f1] at e1 f2 ⊢
        simp only [go_sem, Nat.reduceAdd, Nat.reduceLeDiff, Nat.reduceSub, Nat.reduceMul, Nat.reduceEqDiff, Int.reduceEq, Int.reduceLT, Int.reduceLE, Int.reduceAdd, Int.reduceSub, Int.reduceNeg, Int.reduceGT, Int.reduceGE, Int.reduceNe, ne_eq, not_false_eq_true, f2, e1, e2, f3]

theorem walker_decs_loop (hY : YOK step R P loc) (L : List Dec) (x : Slot) (hx : x.list? = some (L.map Dec.enc)) (inn : Bool) (hl : L.length < 2^40) : ∀ (suf pre : List Dec) (st : σ) (s : St) (i : Nat), pre ++ suf = L → i = pre.length → (∀ d ∈ suf, d.size < 2^40 ∧ WCases step R P loc d.case ∧ ∀ f ∈ d.funs, WCases step R P loc [f.case]) → (∀ n ∈ nodesDecs inn suf, P n) → R (st, true) s →
    ∃ s', tree_walker_decs_l0 x (.val (.bool inn)) [.val (.yld loc)] (.val (.int .i64 L.length)) (.val (.int .i64 i)) s = some (.ret (.val (.bool (walk step (nodesDecs inn suf) st).2)), s') ∧ R (walk step (nodesDecs inn suf) st) s'
  | [], pre, st, s, i, h, hi, H, hP, hR => by
    subst hi
    rw [tree_walker_decs_l0_eq]; simp only [go_sem, Nat.reduceAdd, Nat.reduceLeDiff, Nat.reduceSub, Nat.reduceMul, Nat.reduceEqDiff, Int.reduceEq, Int.reduceLT, Int.reduceLE, Int.reduceAdd, Int.reduceSub, Int.reduceNeg, Int.reduceGT, Int.reduceGE, Int.reduceNe, ne_eq, not_false_eq_true, end_facts (by simpa using h), nodesDecs, walk]
    exact ⟨s, rfl, hR⟩
  | .mk k a nm p l nb c cb f fb :: suf, pre, st, s, i, h, hi, H, hP, hR => by
    subst hi
    obtain ⟨f1, f2, f3⟩ := step_facts hx h (by omega) (Dec.cells_len (.mk k a nm p l nb c cb f fb)) (by decide)
    obtain ⟨hsz, HC, HF⟩ := H _ (List.mem_cons_self)
    simp only [Dec.case, Dec.funs, Dec.size] at hsz HC HF
    have q1 := Fun.len_sizes f
    have q2 := Con.len_sizes l
    have hlen : pre.length < L.length := by rw [← h]; simp
    simp only [nodesDecs, nodesDec, List.append_assoc, List.cons_append] at hP ⊢
    obtain ⟨s1, e1, g1⟩ := hY (.dec inn (.mk k a nm p l nb c cb f fb)) [] st s (hP _ (List.mem_cons_self)) hR
    rw [tree_walker_decs_l0_eq]
    simp only [walk]
    cases hb : (step (.dec inn (.mk k a nm p l nb c cb f fb)) st).2 with
    | false =>
      rw [hb] at e1
      simp only [go_sem, Nat.reduceAdd, Nat.reduceLeDiff, Nat.reduceSub, Nat.reduceMul, Nat.reduceEqDiff, Int.reduceEq, Int.reduceLT, Int.reduceLE, Int.reduceAdd, Int.reduceSub, Int.reduceNeg, Int.reduceGT, Int.reduceGE, Int.reduceNe, ne_eq, not_false_eq_true, TNode.thing, Dec.at_, f1] at e1 f2 ⊢
      simp only [go_sem, Nat.reduceAdd, Nat.reduceLeDiff, Nat.reduceSub, Nat.reduceMul, Nat.reduceEqDiff, Int.reduceEq, Int.reduceLT, Int.reduceLE, Int.reduceAdd, Int.reduceSub, Int.reduceNeg, Int.reduceGT, Int.reduceGE, Int.reduceNe, ne_eq, not_false_eq_true, f2, e1, hb]
      exact ⟨s1, rfl, g1⟩
    | true =>
      rw [hb] at e1
      rw [cond_true, walk_app]
      obtain ⟨s2, e2, g2⟩ := HC (encS cb (c.map Case.enc)) (by simp only [go_sem, Nat.reduceAdd, Nat.reduceLeDiff, Nat.reduceSub, Nat.reduceMul, Nat.reduceEqDiff, Int.reduceEq, Int.reduceLT, Int.reduceLE, Int.reduceAdd, Int.reduceSub, Int.reduceNeg, Int.reduceGT, Int.reduceGE, Int.reduceNe, ne_eq, not_false_eq_true]) (fun n hn => hP n (List.mem_cons_of_mem _ (List.mem_append_left _ hn))) (step (.dec inn (.mk k a nm p l nb c cb f fb)) st).1 s1 (on_true hb g1)
      cases hb2 : (walk step (nodesCases c) (step (.dec inn (.mk k a nm p l nb c cb f fb)) st).1).2 with
      | false =>
        rw [hb2] at e2
        simp only [go_sem, Nat.reduceAdd, Nat.reduceLeDiff, Nat.reduceSub, Nat.reduceMul, Nat.reduceEqDiff, Int.reduceEq, Int.reduceLT, Int.reduceLE, Int.reduceAdd, Int.reduceSub, Int.reduceNeg, Int.reduceGT, Int.reduceGE, Int.reduceNe, ne_eq, not_false_eq_true, TNode.thing, Dec.at_, f1] at e1 f2 ⊢
        simp only [go_sem, Nat.reduceAdd, Nat.reduceLeDiff, Nat.reduceSub, Nat.reduceMul, Nat.reduceEqDiff, Int.reduceEq, Int.reduceLT, Int.reduceLE, Int.reduceAdd, Int.reduceSub, Int.reduceNeg, Int.reduceGT, Int.reduceGE, Int.reduceNe, ne_eq, not_false_eq_true, f2, e1, e2, hb2]
        exact ⟨s2, rfl, g2⟩
      | true =>
        rw [hb2] at e2
        obtain ⟨s3, e3, g3⟩ := walker_decs_l1_loop hY (.mk k a nm p l nb c cb f fb) x (.val (.bool inn)) (.val (.int .i64 L.length)) pre.length (by omega) (by simp only [Dec.funs]; omega) (by simp only [Dec.cons]; omega) (by simp only [Dec.cons]; omega) (nodesDecs inn suf)
          (fun st s hR hP => walker_decs_loop hY L x hx inn hl suf (pre ++ [.mk k a nm p l nb c cb f fb]) st s (pre.length + 1) (by simpa using h) (by simp) (fun w hw => H w (List.mem_cons_of_mem _ hw)) hP hR)
          f [] (walk step (nodesCases c) (step (.dec inn (.mk k a nm p l nb c cb f fb)) st).1).1 s2 0 rfl rfl HF (fun n hn => hP n (List.mem_cons_of_mem _ (List.mem_append_right _ hn))) (on_true hb2 g2)
        refine ⟨s3, ?_, g3⟩
        simp only [Dec.cons] at e3
        rw [cond_true, ← e3]
        simp only [go_sem, Nat.reduceAdd, Nat.reduceLeDiff, Nat.reduceSub, Nat.reduceMul, Nat.reduceEqDiff, Int.reduceEq, Int.reduceLT, Int.reduceLE, Int.reduceAdd, Int.reduceSub, Int.reduceNeg, Int.reduceGT, Int.reduceGE, Int.reduceNe, ne_eq, not_false_eq_true, TNode.thing, Dec.at_, f1] at e1 f2 ⊢
        simp only [go_sem, Nat.reduceAdd, Nat.reduceLeDiff, Nat.reduceSub, Nat.reduceMul, Nat.reduceEqDiff, Int.reduceEq, Int.reduceLT, Int.reduceLE, Int.reduceAdd, Int.reduceSub, Int.reduceNeg, Int.reduceGT, Int.reduceGE, Int.reduceNe, ne_eq, not_false_eq_true, f2, e1, e2, Dec.funs]
        rfl

theorem walker_all (hY : YOK step R P loc) : ∀ m : Nat, (∀ e : Exp, e.size ≤ m → e.size < 2^40 → WExp step R P loc e) ∧ (∀ l : List Case, Case.sizes l ≤ m → Case.sizes l < 2^40 → WCases step R P loc l) ∧ (∀ l : List Dec, Dec.sizes l ≤ m → Dec.sizes l < 2^40 → WDecs step R P loc l) := by
  intro m
  induction m with
  | zero =>
    refine ⟨fun e h _ => ?_, fun l h _ v hv hP st s hR => ?_, fun l h _ v inn hv hP st s hR => ?_⟩
    · obtain ⟨k, a, nm, n, l, lb, c, cb, d, db⟩ := e
      simp only [Exp.size] at h; omega
    · cases l with
      | cons c l => obtain ⟨p, e⟩ := c; simp only [Case.sizes, Case.size] at h; omega
      | nil =>
        rw [tree_walker_cases_eq]; simp only [go_sem, Nat.reduceAdd, Nat.reduceLeDiff, Nat.reduceSub, Nat.reduceMul, Nat.reduceEqDiff, Int.reduceEq, Int.reduceLT, Int.reduceLE, Int.reduceAdd, Int.reduceSub, Int.reduceNeg, Int.reduceGT, Int.reduceGE, Int.reduceNe, ne_eq, not_false_eq_true, hv]
        exact walker_cases_loop hY [] _ hv (by decide) [] [] st s 0 rfl rfl (by simp) hP hR
    · cases l with
      | cons c l => obtain ⟨k, a, nm, p, l, nb, c, cb, f, fb⟩ := c; simp only [Dec.sizes, Dec.size] at h; omega
      | nil =>
        rw [tree_walker_decs_eq]; simp only [go_sem, Nat.reduceAdd, Nat.reduceLeDiff, Nat.reduceSub, Nat.reduceMul, Nat.reduceEqDiff, Int.reduceEq, Int.reduceLT, Int.reduceLE, Int.reduceAdd, Int.reduceSub, Int.reduceNeg, Int.reduceGT, Int.reduceGE, Int.reduceNe, ne_eq, not_false_eq_true, hv]
        exact walker_decs_loop hY [] _ hv inn (by decide) [] [] st s 0 rfl rfl (by simp) hP hR
  | succ m ih =>
    obtain ⟨ihE, ihC, ihD⟩ := ih
    refine ⟨fun e h h' => ?_, fun l h h' v hv hP st s hR => ?_, fun l h h' v inn hv hP st s hR => ?_⟩
    · refine walker_exp_of hY e ?_ ?_ ?_ ?_ <;> obtain ⟨k, a, nm, n, l, lb, c, cb, d, db⟩ := e <;> simp only [Exp.size] at h h' <;> simp only [Exp.kids, Exp.cases, Exp.decs]
      · have := Exp.len_sizes l; omega
      · exact ihD d (by omega) (by omega)
      · exact ihC c (by omega) (by omega)
      · exact fun u hu => ihE u (by have := Exp.mem_sizes hu; omega) (by have := Exp.mem_sizes hu; omega)
    · have := Case.len_sizes l
      rw [tree_walker_cases_eq]; simp only [go_sem, Nat.reduceAdd, Nat.reduceLeDiff, Nat.reduceSub, Nat.reduceMul, Nat.reduceEqDiff, Int.reduceEq, Int.reduceLT, Int.reduceLE, Int.reduceAdd, Int.reduceSub, Int.reduceNeg, Int.reduceGT, Int.reduceGE, Int.reduceNe, ne_eq, not_false_eq_true, hv]
      refine walker_cases_loop hY l _ hv (by omega) l [] st s 0 rfl rfl (fun t ht => ?_) hP hR
      have h1 := Case.mem_sizes ht
      obtain ⟨p, e⟩ := t
      simp only [Case.size, Case.exp] at h1 ⊢
      exact ⟨ihE e (by omega) (by omega), by omega⟩
    · have := Dec.len_sizes l
      rw [tree_walker_decs_eq]; simp only [go_sem, Nat.reduceAdd, Nat.reduceLeDiff, Nat.reduceSub, Nat.reduceMul, Nat.reduceEqDiff, Int.reduceEq, Int.reduceLT, Int.reduceLE, Int.reduceAdd, Int.reduceSub, Int.reduceNeg, Int.reduceGT, Int.reduceGE, Int.reduceNe, ne_eq, not_false_eq_true, hv]
      refine walker_decs_loop hY l _ hv inn (by omega) l [] st s 0 rfl rfl (fun t ht => ?_) hP hR
      have h1 := Dec.mem_sizes ht
      obtain ⟨k, a, nm, p, l, nb, c, cb, f, fb⟩ := t
      simp only [Dec.size, Dec.case, Dec.funs] at h1 ⊢
      refine ⟨by omega, ihC c (by omega) (by omega), fun g hg => ?_⟩
      have h2 := Fun.mem_sizes hg
      obtain ⟨nm, a, c'⟩ := g
      simp only [Fun.size, Fun.case] at h2 ⊢
      exact ihC [c'] (by simp only [Case.sizes]; omega) (by simp only [Case.sizes]; omega)

end
end Go.Proofs.Ytemfpnlpnmglfaa
