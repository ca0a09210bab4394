/- An expression alone, a pattern alone: what is wrong first, and the names that it binds: the program's answer is the document's. -/
import Derived.Test.YtemfpnlpnmglfaaSKnows
import Derived.Test.YtemfpnlpnmglfaaSRef6
import Derived.Test.YtemfpnlpnmglfaaSRef7
set_option linter.unusedVariables false
set_option linter.unusedSimpArgs false
namespace Go.Proofs.Ytemfpnlpnmglfaa
open Go Go.Am
set_option maxRecDepth 4000

theorem law05_TreeAlone_spec (e : Exp) (p : Pat) (s : St) (he : e.size < 2^26) (hp : p.size < 2^26) (He : ∀ n ∈ nodesExp e, n.ok) (Hp : ∀ n ∈ nodesPat p, n.ok) : Ret (cw (.f F_law05_TreeAlone) [e.enc, p.enc] s) s (.bool true) := by
  obtain ⟨s1, e1, g1⟩ := tree_RightExp_spec e s he He
  obtain ⟨s2, e2, g2⟩ := ref05_RightExp_spec e s1 he He
  obtain ⟨s3, e3, g3⟩ := tree_RightPat_spec p s2 hp Hp
  obtain ⟨s4, e4, g4⟩ := ref05_RightPat_spec p s3 hp Hp
  obtain ⟨x, s5, e5, g5⟩ := tree_Vars_spec p s4 hp
  obtain ⟨y, s6, e6, g6⟩ := ref05_Vars_spec _ p s5 (Nat.le_refl _) (by omega)
  obtain ⟨bx, hx⟩ := g5.av
  obtain ⟨by', hy⟩ := g6.av
  have hlen := varsPat_len p
  have e7 := ref05_SameTexts_spec (varsPat p) (encS bx ((varsPat p).map .str)) (encS by' ((varsPat p).map .str)) (by simp only [go_sem, Nat.reduceAdd, Nat.reduceLeDiff, Nat.reduceSub, Nat.reduceMul, Nat.reduceEqDiff, Int.reduceEq, Int.reduceLT, Int.reduceLE, Int.reduceAdd, Int.reduceSub, Int.reduceNeg, Int.reduceGT, Int.reduceGE, Int.reduceNe, ne_eq, not_false_eq_true]) (by simp only [go_sem, Nat.reduceAdd, Nat.reduceLeDiff, Nat.reduceSub, Nat.reduceMul, Nat.reduceEqDiff, Int.reduceEq, Int.reduceLT, Int.reduceLE, Int.reduceAdd, Int.reduceSub, Int.reduceNeg, Int.reduceGT, Int.reduceGE, Int.reduceNe, ne_eq, not_false_eq_true]) (by omega) s6
  obtain ⟨s8, e8, g8⟩ := law05_knows_spec s6
  have hg : Grew s s8 := ((((((g1.trans g2).trans g3).trans g4).trans g5.grew).trans g6.grew)).trans g8
  clear g1 g2 g3 g4 g8
  revert e1 e2 e3 e4
  generalize rightN (nodesExp e) (deepExp e) = b1
  generalize rightN (nodesPat p) (deepPat p) = b2
  intro e1 e2 e3 e4
  obtain ⟨k1, a1, n1⟩ := b1
  obtain ⟨k2, a2, n2⟩ := b2
  rw [law05_TreeAlone_eq]
  simp only [go_sem, Nat.reduceAdd, Nat.reduceLeDiff, Nat.reduceSub, Nat.reduceMul, Nat.reduceEqDiff, Int.reduceEq, Int.reduceLT, Int.reduceLE, Int.reduceAdd, Int.reduceSub, Int.reduceNeg, Int.reduceGT, Int.reduceGE, Int.reduceNe, ne_eq, not_false_eq_true, e1, e2, e3, e4, e5, e6, e7, e8, TBad.enc, TBad.cells, avs_cons hx, avs_cons hy]
  exact ⟨_, rfl, hg⟩

end Go.Proofs.Ytemfpnlpnmglfaa
