/- What is right as a whole is right in each expression and each pattern alone. -/
import Derived.Test.YtemfpnlpnmglfaaSKnows
import Derived.Test.YtemfpnlpnmglfaaSRef6
import Derived.Test.YtemfpnlpnmglfaaPWithin
set_option linter.unusedVariables false
set_option linter.unusedSimpArgs false
namespace Go.Proofs.Ytemfpnlpnmglfaa
open Go Go.Am
set_option maxRecDepth 4000

theorem Ret.after {r : Res} {s0 s : St} {v : AV} (h : Ret r s v) (g : Grew s0 s) : Ret r s0 v := by
  obtain ⟨s', e, g'⟩ := h
  exact ⟨s', e, g.trans g'⟩

/-- a node whose own tree, if it is an expression or a pattern, is right -/
def PartOK : TNode → Prop
  | .exp e => e.size < 2^26 ∧ (∀ n ∈ nodesExp e, n.ok) ∧ rightN (nodesExp e) (deepExp e) = .zero
  | .pat p => p.size < 2^26 ∧ (∀ n ∈ nodesPat p, n.ok) ∧ rightN (nodesPat p) (deepPat p) = .zero
  | _ => True

theorem TreeWithin_loop (L : List TNode) (x : Slot) (hx : x.list? = some (L.map TNode.enc)) (hl : L.length < 2^40) : ∀ (suf pre : List TNode) (s : St) (i : Nat), pre ++ suf = L → i = pre.length → (∀ n ∈ suf, PartOK n) →
    Ret (law05_TreeWithin_l0 x (.val (.int .i64 i)) s) s (.bool true)
  | [], pre, s, i, h, hi, H => by
    subst hi
    obtain ⟨s1, e1, g1⟩ := law05_knows_spec s
    rw [law05_TreeWithin_l0_eq]; simp only [go_sem, Nat.reduceAdd, Nat.reduceLeDiff, Nat.reduceSub, Nat.reduceMul, Nat.reduceEqDiff, Int.reduceEq, Int.reduceLT, Int.reduceLE, Int.reduceAdd, Int.reduceSub, Int.reduceNeg, Int.reduceGT, Int.reduceGE, Int.reduceNe, ne_eq, not_false_eq_true, hx, end_facts (by simpa using h), e1]
    exact ⟨s1, rfl, g1⟩
  | u :: suf, pre, s, i, h, hi, H => by
    subst hi
    obtain ⟨f1, f2, f3⟩ := step_facts hx h (by omega) (TNode.cells_len u) (by decide)
    have ih := fun s => TreeWithin_loop L x hx hl suf (pre ++ [u]) s (pre.length + 1) (by simpa using h) (by simp) (fun w hw => H w (List.mem_cons_of_mem _ hw))
    have hu := H u (List.mem_cons_self)
    rw [law05_TreeWithin_l0_eq]
    cases u with
    | exp e =>
      obtain ⟨h1, h2, h3⟩ := hu
      obtain ⟨s1, e1, g1⟩ := tree_RightExp_spec e s h1 h2
      rw [h3] at e1
      simp only [go_sem, Nat.reduceAdd, Nat.reduceLeDiff, Nat.reduceSub, Nat.reduceMul, Nat.reduceEqDiff, Int.reduceEq, Int.reduceLT, Int.reduceLE, Int.reduceAdd, Int.reduceSub, Int.reduceNeg, Int.reduceGT, Int.reduceGE, Int.reduceNe, ne_eq, not_false_eq_true, TBad.enc, TBad.cells, TBad.zero] at e1
      simp only [go_sem, Nat.reduceAdd, Nat.reduceLeDiff, Nat.reduceSub, Nat.reduceMul, Nat.reduceEqDiff, Int.reduceEq, Int.reduceLT, Int.reduceLE, Int.reduceAdd, Int.reduceSub, Int.reduceNeg, Int.reduceGT, Int.reduceGE, Int.reduceNe, ne_eq, not_false_eq_true, TNode.enc, TNode.cells, Dec.zero] at f2
      simp only [go_sem, Nat.reduceAdd, Nat.reduceLeDiff, Nat.reduceSub, Nat.reduceMul, Nat.reduceEqDiff, Int.reduceEq, Int.reduceLT, Int.reduceLE, Int.reduceAdd, Int.reduceSub, Int.reduceNeg, Int.reduceGT, Int.reduceGE, Int.reduceNe, ne_eq, not_false_eq_true, hx, f1, f2, f3, e1, binBad_neq]
      exact Ret.after (ih s1) g1
    | pat p =>
      obtain ⟨h1, h2, h3⟩ := hu
      obtain ⟨s1, e1, g1⟩ := tree_RightPat_spec p s h1 h2
      rw [h3] at e1
      simp only [go_sem, Nat.reduceAdd, Nat.reduceLeDiff, Nat.reduceSub, Nat.reduceMul, Nat.reduceEqDiff, Int.reduceEq, Int.reduceLT, Int.reduceLE, Int.reduceAdd, Int.reduceSub, Int.reduceNeg, Int.reduceGT, Int.reduceGE, Int.reduceNe, ne_eq, not_false_eq_true, TBad.enc, TBad.cells, TBad.zero] at e1
      simp only [go_sem, Nat.reduceAdd, Nat.reduceLeDiff, Nat.reduceSub, Nat.reduceMul, Nat.reduceEqDiff, Int.reduceEq, Int.reduceLT, Int.reduceLE, Int.reduceAdd, Int.reduceSub, Int.reduceNeg, Int.reduceGT, Int.reduceGE, Int.reduceNe, ne_eq, not_false_eq_true, TNode.enc, TNode.cells, Dec.zero, Exp.zero] at f2
      simp only [go_sem, Nat.reduceAdd, Nat.reduceLeDiff, Nat.reduceSub, Nat.reduceMul, Nat.reduceEqDiff, Int.reduceEq, Int.reduceLT, Int.reduceLE, Int.reduceAdd, Int.reduceSub, Int.reduceNeg, Int.reduceGT, Int.reduceGE, Int.reduceNe, ne_eq, not_false_eq_true, hx, f1, f2, f3, e1, binBad_neq]
      exact Ret.after (ih s1) g1
    | dec inn d =>
      simp only [go_sem, Nat.reduceAdd, Nat.reduceLeDiff, Nat.reduceSub, Nat.reduceMul, Nat.reduceEqDiff, Int.reduceEq, Int.reduceLT, Int.reduceLE, Int.reduceAdd, Int.reduceSub, Int.reduceNeg, Int.reduceGT, Int.reduceGE, Int.reduceNe, ne_eq, not_false_eq_true, TNode.enc, TNode.cells] at f2
      simp only [go_sem, Nat.reduceAdd, Nat.reduceLeDiff, Nat.reduceSub, Nat.reduceMul, Nat.reduceEqDiff, Int.reduceEq, Int.reduceLT, Int.reduceLE, Int.reduceAdd, Int.reduceSub, Int.reduceNeg, Int.reduceGT, Int.reduceGE, Int.reduceNe, ne_eq, not_false_eq_true, hx, f1, f2, f3]
      exact ih s
    | ty t a =>
      simp only [go_sem, Nat.reduceAdd, Nat.reduceLeDiff, Nat.reduceSub, Nat.reduceMul, Nat.reduceEqDiff, Int.reduceEq, Int.reduceLT, Int.reduceLE, Int.reduceAdd, Int.reduceSub, Int.reduceNeg, Int.reduceGT, Int.reduceGE, Int.reduceNe, ne_eq, not_false_eq_true, TNode.enc, TNode.cells] at f2
      simp only [go_sem, Nat.reduceAdd, Nat.reduceLeDiff, Nat.reduceSub, Nat.reduceMul, Nat.reduceEqDiff, Int.reduceEq, Int.reduceLT, Int.reduceLE, Int.reduceAdd, Int.reduceSub, Int.reduceNeg, Int.reduceGT, Int.reduceGE, Int.reduceNe, ne_eq, not_false_eq_true, hx, f1, f2, f3]
      exact ih s
    | fn f =>
      simp only [go_sem, Nat.reduceAdd, Nat.reduceLeDiff, Nat.reduceSub, Nat.reduceMul, Nat.reduceEqDiff, Int.reduceEq, Int.reduceLT, Int.reduceLE, Int.reduceAdd, Int.reduceSub, Int.reduceNeg, Int.reduceGT, Int.reduceGE, Int.reduceNe, ne_eq, not_false_eq_true, TNode.enc, TNode.cells] at f2
      simp only [go_sem, Nat.reduceAdd, Nat.reduceLeDiff, Nat.reduceSub, Nat.reduceMul, Nat.reduceEqDiff, Int.reduceEq, Int.reduceLT, Int.reduceLE, Int.reduceAdd, Int.reduceSub, Int.reduceNeg, Int.reduceGT, Int.reduceGE, Int.reduceNe, ne_eq, not_false_eq_true, hx, f1, f2, f3]
      exact ih s
    | con c =>
      simp only [go_sem, Nat.reduceAdd, Nat.reduceLeDiff, Nat.reduceSub, Nat.reduceMul, Nat.reduceEqDiff, Int.reduceEq, Int.reduceLT, Int.reduceLE, Int.reduceAdd, Int.reduceSub, Int.reduceNeg, Int.reduceGT, Int.reduceGE, Int.reduceNe, ne_eq, not_false_eq_true, TNode.enc, TNode.cells] at f2
      simp only [go_sem, Nat.reduceAdd, Nat.reduceLeDiff, Nat.reduceSub, Nat.reduceMul, Nat.reduceEqDiff, Int.reduceEq, Int.reduceLT, Int.reduceLE, Int.reduceAdd, Int.reduceSub, Int.reduceNeg, Int.reduceGT, Int.reduceGE, Int.reduceNe, ne_eq, not_false_eq_true, hx, f1, f2, f3]
      exact ih s

theorem law05_TreeWithin_spec (L : List Dec) (b : Bool) (s : St) (h : Dec.sizes L < 2^26) (H : ∀ n ∈ nodesDecs false L, n.ok) : Ret (cw (.f F_law05_TreeWithin) [encS b (L.map Dec.enc)] s) s (.bool true) := by
  obtain ⟨s1, e1, g1⟩ := tree_Right_spec L b s h H
  rw [law05_TreeWithin_eq]
  by_cases hz : rightN (nodesDecs false L) (deepDecs L 0) = .zero
  · rw [hz] at e1
    obtain ⟨x, s2, e2, g2⟩ := ref05_Of_spec L b s1 h
    have hlen := nodesDecs_len false L
    have hw := within_decs false L 0
    have h3 := TreeWithin_loop (nodesDecs false L) x g2.list? (by omega) (nodesDecs false L) [] s2 0 rfl rfl (fun n hn => by
      have hsub : ∀ {m : List TNode}, (∃ a b, nodesDecs false L = a ++ (m ++ b)) → ∀ k ∈ m, k.ok := fun ⟨a, b, hab⟩ k hk => H k (by rw [hab]; simp [hk])
      cases n with
      | exp e =>
        obtain ⟨hs, hd, hz1⟩ := (hw _ hn).1 e rfl
        obtain ⟨a, b, hab⟩ := hs
        exact ⟨by omega, hsub ⟨a, b, hab⟩, right_part hz hab hd⟩
      | pat p =>
        obtain ⟨hs, hd, hz1⟩ := (hw _ hn).2 p rfl
        obtain ⟨a, b, hab⟩ := hs
        exact ⟨by omega, hsub ⟨a, b, hab⟩, right_part hz hab hd⟩
      | _ => trivial)
    rw [show ((0 : Nat) : Int) = 0 from rfl] at h3
    simp only [go_sem, Nat.reduceAdd, Nat.reduceLeDiff, Nat.reduceSub, Nat.reduceMul, Nat.reduceEqDiff, Int.reduceEq, Int.reduceLT, Int.reduceLE, Int.reduceAdd, Int.reduceSub, Int.reduceNeg, Int.reduceGT, Int.reduceGE, Int.reduceNe, ne_eq, not_false_eq_true, TBad.enc, TBad.cells, TBad.zero] at e1
    simp only [go_sem, Nat.reduceAdd, Nat.reduceLeDiff, Nat.reduceSub, Nat.reduceMul, Nat.reduceEqDiff, Int.reduceEq, Int.reduceLT, Int.reduceLE, Int.reduceAdd, Int.reduceSub, Int.reduceNeg, Int.reduceGT, Int.reduceGE, Int.reduceNe, ne_eq, not_false_eq_true, e1, e2, binBad_neq]
    exact Ret.after h3 (g1.trans g2.grew)
  · obtain ⟨s2, e2, g2⟩ := law05_knows_spec s1
    revert e1 hz
    generalize rightN (nodesDecs false L) (deepDecs L 0) = bd
    intro e1 hz
    obtain ⟨k, a, nm⟩ := bd
    have hd : decide (TBad.mk k a nm = TBad.mk 0 0 []) = false := decide_eq_false hz
    simp only [go_sem, Nat.reduceAdd, Nat.reduceLeDiff, Nat.reduceSub, Nat.reduceMul, Nat.reduceEqDiff, Int.reduceEq, Int.reduceLT, Int.reduceLE, Int.reduceAdd, Int.reduceSub, Int.reduceNeg, Int.reduceGT, Int.reduceGE, Int.reduceNe, ne_eq, not_false_eq_true, TBad.enc, TBad.cells] at e1
    simp only [go_sem, Nat.reduceAdd, Nat.reduceLeDiff, Nat.reduceSub, Nat.reduceMul, Nat.reduceEqDiff, Int.reduceEq, Int.reduceLT, Int.reduceLE, Int.reduceAdd, Int.reduceSub, Int.reduceNeg, Int.reduceGT, Int.reduceGE, Int.reduceNe, ne_eq, not_false_eq_true, e1, e2, binBad_neq, hd]
    exact ⟨s2, rfl, g1.trans g2⟩

end Go.Proofs.Ytemfpnlpnmglfaa
