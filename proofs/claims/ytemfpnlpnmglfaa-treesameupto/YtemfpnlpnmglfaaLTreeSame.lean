/- Two programs the same: the program's answer is the document's. -/
import Derived.Test.YtemfpnlpnmglfaaSKnows
import Derived.Test.YtemfpnlpnmglfaaSTree8
import Derived.Test.YtemfpnlpnmglfaaSRef8
set_option linter.unusedVariables false
set_option linter.unusedSimpArgs false
namespace Go.Proofs.Ytemfpnlpnmglfaa
open Go Go.Am
set_option maxRecDepth 4000

theorem law05_TreeSame_spec (L M : List Dec) (b c : Bool) (s : St) (h : Dec.sizes L < 2^40) : Ret (cw (.f F_law05_TreeSame) [encS b (L.map Dec.enc), encS c (M.map Dec.enc)] s) s (.bool true) := by
  have e1 := tree_Same_spec L M b c s h
  have e2 := ref05_Same_spec L M b c s h
  obtain ⟨s3, e3, g3⟩ := law05_knows_spec s
  rw [law05_TreeSame_eq]
  have e4 : (eqDecs false L M == eqDecs false L M) = true := by simp
  simp only [go_sem, Nat.reduceAdd, Nat.reduceLeDiff, Nat.reduceSub, Nat.reduceMul, Nat.reduceEqDiff, Int.reduceEq, Int.reduceLT, Int.reduceLE, Int.reduceAdd, Int.reduceSub, Int.reduceNeg, Int.reduceGT, Int.reduceGE, Int.reduceNe, ne_eq, not_false_eq_true, e1, e2, e4, e3]
  exact ⟨_, rfl, g3⟩

end Go.Proofs.Ytemfpnlpnmglfaa
