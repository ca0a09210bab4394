/- The tree layer: what is wrong with a node alone. -/
import Derived.Test.YtemfpnlpnmglfaaSTree1
set_option linter.unusedVariables false
set_option linter.unusedSimpArgs false
namespace Go.Proofs.Ytemfpnlpnmglfaa
open Go Go.Am
set_option maxRecDepth 4000

theorem tree_wrongTy_spec (t : Ty) (s : St) (hn : t.name.length < 2^62) : cw (.f F_tree_wrongTy) [t.enc] s = some (.ret (.val (.int .i64 (wrongTyB t))), s) := by
  obtain ⟨k, n, nm, l, nl⟩ := t
  rw [tree_wrongTy_eq]
  simp only [go_sem, Nat.reduceAdd, Nat.reduceLeDiff, Nat.reduceSub, Nat.reduceMul, Nat.reduceEqDiff, Int.reduceEq, Int.reduceLT, Int.reduceLE, Int.reduceAdd, Int.reduceSub, Int.reduceNeg, Int.reduceGT, Int.reduceGE, Int.reduceNe, ne_eq, not_false_eq_true, tree_wrongTy_j0_eq, tree_wrongTy_j1_eq, tree_low_spec nm _ hn]
  show _ = some (Out.ret (.val (.int .i64 (wrongTyC k n nm l.length))), s)
  delta wrongTyC tyLM
  generalize decide (nm = [105, 110, 116]) = x1
  generalize decide (nm = [98, 111, 111, 108]) = x2
  generalize decide (nm = [117, 110, 105, 116]) = x3
  generalize decide (nm = [101, 120, 110]) = x4
  generalize decide (nm = [114, 101, 102]) = x5
  generalize decide (nm = [45, 62]) = x6
  generalize decide (nm = [42]) = x7
  generalize lowB nm = x8
  cases x1 <;> cases x2 <;> cases x3 <;> cases x4 <;> cases x5 <;> cases x6 <;> cases x7 <;> cases x8 <;> rfl

theorem tree_wrongPat_spec (t : Pat) (s : St) (hn : t.name.length < 2^62) : cw (.f F_tree_wrongPat) [t.enc] s = some (.ret (.val (.int .i64 (wrongPatB t))), s) := by
  obtain ⟨k, a, nm, n, l, nl⟩ := t
  rw [tree_wrongPat_eq]
  have hk : k = 1 ∨ k = 2 ∨ k = 3 ∨ k = 4 ∨ k = 5 ∨ k = 6 ∨ (k < 1 ∨ k > 6) := by omega
  rcases hk with rfl | rfl | rfl | rfl | rfl | rfl | hk
  rotate_left 6
  · simp only [go_sem, Nat.reduceAdd, Nat.reduceLeDiff, Nat.reduceSub, Nat.reduceMul, Nat.reduceEqDiff, Int.reduceEq, Int.reduceLT, Int.reduceLE, Int.reduceAdd, Int.reduceSub, Int.reduceNeg, Int.reduceGT, Int.reduceGE, Int.reduceNe, ne_eq, not_false_eq_true, decide_eq_false (show ¬ k = 1 by omega), decide_eq_false (show ¬ k = 2 by omega), decide_eq_false (show ¬ k = 3 by omega), decide_eq_false (show ¬ k = 4 by omega), decide_eq_false (show ¬ k = 5 by omega), decide_eq_false (show ¬ k = 6 by omega)]
    have : (decide (k < 1) || decide (k > 6)) = true := by simpa using hk
    have e : wrongPatB (Pat.mk k a nm n l nl) = 29 := by
      show (bif (decide (k < 1) || decide (k > 6)) then (29 : Int) else _) = 29
      rw [this]; rfl
    rw [e]
  all_goals
    simp only [go_sem, Nat.reduceAdd, Nat.reduceLeDiff, Nat.reduceSub, Nat.reduceMul, Nat.reduceEqDiff, Int.reduceEq, Int.reduceLT, Int.reduceLE, Int.reduceAdd, Int.reduceSub, Int.reduceNeg, Int.reduceGT, Int.reduceGE, Int.reduceNe, ne_eq, not_false_eq_true, tree_wrongPat_j0_eq, tree_low_spec nm _ hn, tree_constructor_spec nm _ hn, tree_isInt_spec, wrongPatB, patLM, Pat.kind, Pat.name, Pat.n, Pat.kids]
    try rfl

theorem tree_wrongCon_spec (c : Con) (s : St) (hn : c.name.length < 2^62) : cw (.f F_tree_wrongCon) [c.enc] s = some (.ret (.val (.int .i64 (wrongConB c))), s) := by
  rw [tree_wrongCon_eq]
  simp only [go_sem, Nat.reduceAdd, Nat.reduceLeDiff, Nat.reduceSub, Nat.reduceMul, Nat.reduceEqDiff, Int.reduceEq, Int.reduceLT, Int.reduceLE, Int.reduceAdd, Int.reduceSub, Int.reduceNeg, Int.reduceGT, Int.reduceGE, Int.reduceNe, ne_eq, not_false_eq_true, Con.cells, Ty.cells_eq, tree_capital_spec _ _ hn]
  rfl

theorem tree_wrongExp_spec (e : Exp) (s : St) (hn : e.name.length < 2^62) : cw (.f F_tree_wrongExp) [e.enc] s = some (.ret (.val (.int .i64 (wrongExpB e))), s) := by
  obtain ⟨k, a, nm, n, l, lb, c, cb, d, db⟩ := e
  rw [tree_wrongExp_eq]
  have hk : k = 1 ∨ k = 2 ∨ k = 3 ∨ k = 4 ∨ k = 5 ∨ k = 6 ∨ k = 7 ∨ k = 8 ∨ k = 9 ∨ k = 10 ∨ k = 11 ∨ k = 12 ∨ k = 13 ∨ k = 14 ∨ k = 15 ∨ k = 16 ∨ k = 17 ∨ k = 18 ∨ k = 19 ∨ k = 20 ∨ (k < 1 ∨ k > 20) := by omega
  rcases hk with rfl | rfl | rfl | rfl | rfl | rfl | rfl | rfl | rfl | rfl | rfl | rfl | rfl | rfl | rfl | rfl | rfl | rfl | rfl | rfl | hk
  rotate_left 20
  · simp only [go_sem, Nat.reduceAdd, Nat.reduceLeDiff, Nat.reduceSub, Nat.reduceMul, Nat.reduceEqDiff, Int.reduceEq, Int.reduceLT, Int.reduceLE, Int.reduceAdd, Int.reduceSub, Int.reduceNeg, Int.reduceGT, Int.reduceGE, Int.reduceNe, ne_eq, not_false_eq_true, tree_fields_eq, decide_eq_false (show ¬ k = 1 by omega), decide_eq_false (show ¬ k = 2 by omega), decide_eq_false (show ¬ k = 3 by omega), decide_eq_false (show ¬ k = 4 by omega), decide_eq_false (show ¬ k = 5 by omega), decide_eq_false (show ¬ k = 6 by omega), decide_eq_false (show ¬ k = 7 by omega), decide_eq_false (show ¬ k = 8 by omega), decide_eq_false (show ¬ k = 9 by omega), decide_eq_false (show ¬ k = 10 by omega), decide_eq_false (show ¬ k = 11 by omega), decide_eq_false (show ¬ k = 12 by omega), decide_eq_false (show ¬ k = 13 by omega), decide_eq_false (show ¬ k = 14 by omega), decide_eq_false (show ¬ k = 15 by omega), decide_eq_false (show ¬ k = 16 by omega), decide_eq_false (show ¬ k = 17 by omega), decide_eq_false (show ¬ k = 18 by omega), decide_eq_false (show ¬ k = 19 by omega), decide_eq_false (show ¬ k = 20 by omega)]
    have h : (decide (k < 1) || decide (k > 20)) = true := by simpa using hk
    have e : wrongExpB (Exp.mk k a nm n l lb c cb d db) = 29 := by
      show (bif (decide (k < 1) || decide (k > 20) || _ || _ || _ || _ || _) then (29 : Int) else _) = 29
      rw [h]; rfl
    rw [e]
  all_goals
    simp only [go_sem, Nat.reduceAdd, Nat.reduceLeDiff, Nat.reduceSub, Nat.reduceMul, Nat.reduceEqDiff, Int.reduceEq, Int.reduceLT, Int.reduceLE, Int.reduceAdd, Int.reduceSub, Int.reduceNeg, Int.reduceGT, Int.reduceGE, Int.reduceNe, ne_eq, not_false_eq_true, tree_fields_eq, tree_low_spec nm _ hn, tree_constructor_spec nm _ hn, tree_isInt_spec, wrongExpB, expLM, Exp.kind, Exp.name, Exp.n, Exp.kids, Exp.cases, Exp.decs]
    try rfl

theorem tree_wrongDec_spec (d : Dec) (inn : Bool) (a : Int) (r : List AV) (s : St) (hn : d.name.length < 2^62) : cw (.f F_tree_thing_wrongDec) [.agg [.cp (d.cells ++ r), .bool inn, .nilp, .nilp, .nilp, .nilp, .nilp, .int .i64 a]] s = some (.ret (.val (.int .i64 (wrongDecB d inn))), s) := by
  obtain ⟨k, at_, nm, p, l, nb, c, cb, f, fb⟩ := d
  rw [tree_thing_wrongDec_eq]
  simp only [go_sem, Nat.reduceAdd, Nat.reduceLeDiff, Nat.reduceSub, Nat.reduceMul, Nat.reduceEqDiff, Int.reduceEq, Int.reduceLT, Int.reduceLE, Int.reduceAdd, Int.reduceSub, Int.reduceNeg, Int.reduceGT, Int.reduceGE, Int.reduceNe, ne_eq, not_false_eq_true, tree_low_spec nm _ hn, tree_thing_wrongDec_j0_eq]
  show _ = some (Out.ret (.val (.int .i64 (wrongDecC k nm p l.length c.length f.length inn))), s)
  delta wrongDecC
  generalize decide (k = 1) = x1
  generalize decide (k = 2) = x2
  generalize decide (k = 3) = x3
  generalize decide (k = 4) = x4
  cases x1 <;> cases x2 <;> cases x3 <;> cases x4 <;> rfl

end Go.Proofs.Ytemfpnlpnmglfaa
