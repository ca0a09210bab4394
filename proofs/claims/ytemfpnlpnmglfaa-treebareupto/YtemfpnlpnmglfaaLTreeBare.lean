/- A program without its places: the same program, as right, as big. -/
import Derived.Test.YtemfpnlpnmglfaaSKnows
import Derived.Test.YtemfpnlpnmglfaaSTree8
import Derived.Test.YtemfpnlpnmglfaaSTree9
import Derived.Test.YtemfpnlpnmglfaaPBare4
set_option linter.unusedVariables false
set_option linter.unusedSimpArgs false
namespace Go.Proofs.Ytemfpnlpnmglfaa
open Go Go.Am
set_option maxRecDepth 4000

theorem eqDecs_of {A B : List Dec} (h : nmDecs false A = nmDecs false B) : eqDecs false A B = true := (eqDecs_iff false A B).2 h
theorem eqDecs_eq {A B X Y : List Dec} (h : nmDecs false X = nmDecs false A) (g : nmDecs false Y = nmDecs false B) : eqDecs false X Y = eqDecs false A B := by
  rw [Bool.eq_iff_iff, eqDecs_iff, eqDecs_iff, h, g]
theorem eqDecs_symm (A B : List Dec) : eqDecs false A B = eqDecs false B A := by
  rw [Bool.eq_iff_iff, eqDecs_iff, eqDecs_iff]; exact eq_comm

theorem law05_TreeBare_spec (L M : List Dec) (b c : Bool) (s : St) (h : Dec.sizes L < 2^26) (g : Dec.sizes M < 2^26) (H : ∀ n ∈ nodesDecs false L, n.ok) : Ret (cw (.f F_law05_TreeBare) [encS b (L.map Dec.enc), encS c (M.map Dec.enc)] s) s (.bool true) := by
  obtain ⟨x1, s1, R, b1, e1, g1, c1, a1, n1⟩ := tree_Bare_spec L b s h
  obtain ⟨x2, s2, S, b2, e2, g2, c2, a2, n2⟩ := tree_Bare_spec M c s1 g
  have hR : Dec.sizes R < 2^26 := by rw [sizes_nm true R false L n1]; exact h
  have hS : Dec.sizes S < 2^26 := by rw [sizes_nm true S false M n2]; exact g
  obtain ⟨s3, e3, g3⟩ := tree_Right_spec L b s2 h H
  obtain ⟨s4, e4, g4⟩ := tree_Right_spec R b1 s3 hR (bare_ok n1 H)
  rw [bare_right n1] at e4
  have q1 := fun s => tree_Same_spec L R b b1 s (by omega)
  have q2 := fun s => tree_Same_spec L M b c s (by omega)
  have q3 := fun s => tree_Same_spec R S b1 b2 s (by omega)
  have q4 := fun s => tree_Same_spec M L c b s (by omega)
  simp only [eqDecs_of (bare_same n1).symm] at q1
  simp only [eqDecs_eq (bare_same n1) (bare_same n2)] at q3
  simp only [eqDecs_symm M L] at q4
  obtain ⟨s5, e5, g5⟩ := tree_Size_spec L b s4 h
  obtain ⟨s6, e6, g6⟩ := tree_Size_spec R b1 s5 hR
  rw [bare_count n1] at e6
  obtain ⟨s7, e7, g7⟩ := law05_knows_spec s6
  have hg : Grew s s7 := (((((g1.trans g2).trans g3).trans g4).trans g5).trans g6).trans g7
  have z : (eqDecs false L M == eqDecs false L M) = true := by simp
  revert e3 e4
  generalize rightN (nodesDecs false L) (deepDecs L 0) = bd
  intro e3 e4
  obtain ⟨k, a, nm⟩ := bd
  simp only [TBad.bare, TBad.enc, TBad.cells] at e3 e4
  rw [law05_TreeBare_eq]
  simp only [go_sem, Nat.reduceAdd, Nat.reduceLeDiff, Nat.reduceSub, Nat.reduceMul, Nat.reduceEqDiff, Int.reduceEq, Int.reduceLT, Int.reduceLE, Int.reduceAdd, Int.reduceSub, Int.reduceNeg, Int.reduceGT, Int.reduceGE, Int.reduceNe, ne_eq, not_false_eq_true, e1, e2, e3, e4, avs_cons a1, avs_cons a2, q1, q2, q3, q4, z, e5, e6, e7, decide_eq_true (Eq.refl k), decide_eq_true (Eq.refl nm), decide_eq_true (Eq.refl ((countN (nodesDecs false L) : Nat) : Int))]
  exact ⟨s7, rfl, hg⟩

end Go.Proofs.Ytemfpnlpnmglfaa
