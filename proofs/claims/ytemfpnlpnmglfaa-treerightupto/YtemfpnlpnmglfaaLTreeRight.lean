/- What is wrong first: the program's answer is the document's. -/
import Derived.Test.YtemfpnlpnmglfaaSKnows
import Derived.Test.YtemfpnlpnmglfaaSRef6
set_option linter.unusedVariables false
set_option linter.unusedSimpArgs false
namespace Go.Proofs.Ytemfpnlpnmglfaa
open Go Go.Am
set_option maxRecDepth 4000

theorem law05_TreeRight_spec (l : List Dec) (nl : Bool) (s : St) (h : Dec.sizes l < 2^26) (H : ∀ n ∈ nodesDecs false l, n.ok) : Ret (cw (.f F_law05_TreeRight) [encS nl (l.map Dec.enc)] s) s (.bool true) := by
  obtain ⟨s1, e1, g1⟩ := tree_Right_spec l nl s h H
  obtain ⟨s2, e2, g2⟩ := ref05_Right_spec l nl s1 h H
  obtain ⟨s3, e3, g3⟩ := law05_knows_spec s2
  revert e1 e2
  generalize rightN _ _ = b
  intro e1 e2
  obtain ⟨k, a, nm⟩ := b
  rw [law05_TreeRight_eq]
  simp only [go_sem, Nat.reduceAdd, Nat.reduceLeDiff, Nat.reduceSub, Nat.reduceMul, Nat.reduceEqDiff, Int.reduceEq, Int.reduceLT, Int.reduceLE, Int.reduceAdd, Int.reduceSub, Int.reduceNeg, Int.reduceGT, Int.reduceGE, Int.reduceNe, ne_eq, not_false_eq_true, e1, e2, e3, TBad.enc, TBad.cells]
  exact ⟨_, rfl, (g1.trans g2).trans g3⟩

end Go.Proofs.Ytemfpnlpnmglfaa
