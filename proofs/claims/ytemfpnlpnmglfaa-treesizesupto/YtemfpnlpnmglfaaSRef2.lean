/- The document's answer for the tree layer: what is wrong with a node alone. -/
import Derived.Test.YtemfpnlpnmglfaaSRef1
import Derived.Test.YtemfpnlpnmglfaaPTree2
set_option linter.unusedVariables false
set_option linter.unusedSimpArgs false
namespace Go.Proofs.Ytemfpnlpnmglfaa
open Go Go.Am
set_option maxRecDepth 4000

theorem ref05_isInt_spec (n : Int) (s : St) (h : -9223372036854775808 ≤ n) (h' : n ≤ 9223372036854775807) : cw (.f F_ref05_isInt) [.int .i64 n] s = some (.ret (.val (.bool (isIntB n))), s) := by
  rw [ref05_isInt_eq]
  have h1 : -2147483648 < n.tmod 2147483648 := Int.lt_tmod_of_pos n (by decide)
  have h2 : n.tmod 2147483648 < 2147483648 := Int.tmod_lt_of_pos n (by decide)
  have h3 : n = 2147483648 * n.tdiv 2147483648 + n.tmod 2147483648 := (Int.mul_tdiv_add_tmod n 2147483648).symm
  have h4 : 0 ≤ n → 0 ≤ n.tmod 2147483648 := fun h => Int.tmod_nonneg _ h
  have h5 : n ≤ 0 → n.tmod 2147483648 ≤ 0 := fun h => by have := Int.tmod_nonneg (2147483648) (show 0 ≤ -n by omega); rw [Int.neg_tmod] at this; omega
  simp only [go_sem, Nat.reduceAdd, Nat.reduceLeDiff, Nat.reduceSub, Nat.reduceMul, Nat.reduceEqDiff, Int.reduceEq, Int.reduceLT, Int.reduceLE, Int.reduceAdd, Int.reduceSub, Int.reduceNeg, Int.reduceGT, Int.reduceGE, Int.reduceNe, ne_eq, not_false_eq_true, ref01_Wrap_spec]
  generalize n.tmod 2147483648 = m at *
  generalize n.tdiv 2147483648 = d at *
  refine congrArg (fun b => some (Out.ret (Slot.val (AV.bool b)), s)) ?_
  rw [Bool.eq_iff_iff]
  simp only [isIntB, Bool.and_eq_true, decide_eq_true_eq, Bool.cond_decide]
  split <;> split <;> omega

theorem ref05_exp_spec (e : Exp) (s : St) (hn : e.name.length < 2^62) (hl : e.kids.length < 2^40) (h : -9223372036854775808 ≤ e.n) (h' : e.n ≤ 9223372036854775807) : cw (.f F_ref05_exp) [e.enc] s = some (.ret (.val (.int .i64 (wrongExpB e))), s) := by
  obtain ⟨k, a, nm, n, l, lb, c, cb, d, db⟩ := e
  rw [ref05_exp_eq]
  have hl' : l.length < 2^40 := hl
  have hi := fun s => ref05_isInt_spec n s h h'
  have hk : k = 1 ∨ k = 2 ∨ k = 3 ∨ k = 4 ∨ k = 5 ∨ k = 6 ∨ k = 7 ∨ k = 8 ∨ k = 9 ∨ k = 10 ∨ k = 11 ∨ k = 12 ∨ k = 13 ∨ k = 14 ∨ k = 15 ∨ k = 16 ∨ k = 17 ∨ k = 18 ∨ k = 19 ∨ k = 20 ∨ (k < 1 ∨ k > 20) := by omega
  rcases hk with rfl | rfl | rfl | rfl | rfl | rfl | rfl | rfl | rfl | rfl | rfl | rfl | rfl | rfl | rfl | rfl | rfl | rfl | rfl | rfl | hk
  rotate_left 20
  · have h : (decide (k < 1) || decide (k > 20)) = true := by simpa using hk
    have e : wrongExpB (Exp.mk k a nm n l lb c cb d db) = 29 := by
      show (bif (decide (k < 1) || decide (k > 20) || _ || _ || _ || _ || _) then (29 : Int) else _) = 29
      rw [h]; rfl
    simp only [go_sem, Nat.reduceAdd, Nat.reduceLeDiff, Nat.reduceSub, Nat.reduceMul, Nat.reduceEqDiff, Int.reduceEq, Int.reduceLT, Int.reduceLE, Int.reduceAdd, Int.reduceSub, Int.reduceNeg, Int.reduceGT, Int.reduceGE, Int.reduceNe, ne_eq, not_false_eq_true, h, e]
  all_goals
    simp only [go_sem, Nat.reduceAdd, Nat.reduceLeDiff, Nat.reduceSub, Nat.reduceMul, Nat.reduceEqDiff, Int.reduceEq, Int.reduceLT, Int.reduceLE, Int.reduceAdd, Int.reduceSub, Int.reduceNeg, Int.reduceGT, Int.reduceGE, Int.reduceNe, ne_eq, not_false_eq_true, ref05_kids_eq, ref05_kids_j0_eq, ref05_kids_j1_eq, ref05_Low_spec nm _ hn, ref05_Con_spec nm _ hn, hi, ref05_is_spec, wrongExpB, expLM, Exp.kind, Exp.name, Exp.n, Exp.kids, Exp.cases, Exp.decs, low_eq, con_eq, isR]
    try rfl
  all_goals grind

theorem ref05_pat_spec (t : Pat) (s : St) (hn : t.name.length < 2^62) (h : -9223372036854775808 ≤ t.n) (h' : t.n ≤ 9223372036854775807) : cw (.f F_ref05_pat) [t.enc] s = some (.ret (.val (.int .i64 (wrongPatB t))), s) := by
  obtain ⟨k, a, nm, n, l, nl⟩ := t
  rw [ref05_pat_eq]
  have hi := fun s => ref05_isInt_spec n s h h'
  have hk : k = 1 ∨ k = 2 ∨ k = 3 ∨ k = 4 ∨ k = 5 ∨ k = 6 ∨ (k < 1 ∨ k > 6) := by omega
  rcases hk with rfl | rfl | rfl | rfl | rfl | rfl | hk
  rotate_left 6
  · have h : (decide (k < 1) || decide (k > 6)) = true := by simpa using hk
    have e : wrongPatB (Pat.mk k a nm n l nl) = 29 := by
      show (bif (decide (k < 1) || decide (k > 6)) then (29 : Int) else _) = 29
      rw [h]; rfl
    simp only [go_sem, Nat.reduceAdd, Nat.reduceLeDiff, Nat.reduceSub, Nat.reduceMul, Nat.reduceEqDiff, Int.reduceEq, Int.reduceLT, Int.reduceLE, Int.reduceAdd, Int.reduceSub, Int.reduceNeg, Int.reduceGT, Int.reduceGE, Int.reduceNe, ne_eq, not_false_eq_true, h, e]
  all_goals
    simp only [go_sem, Nat.reduceAdd, Nat.reduceLeDiff, Nat.reduceSub, Nat.reduceMul, Nat.reduceEqDiff, Int.reduceEq, Int.reduceLT, Int.reduceLE, Int.reduceAdd, Int.reduceSub, Int.reduceNeg, Int.reduceGT, Int.reduceGE, Int.reduceNe, ne_eq, not_false_eq_true, ref05_Low_spec nm _ hn, ref05_Con_spec nm _ hn, hi, ref05_is_spec, wrongPatB, patLM, Pat.kind, Pat.name, Pat.n, Pat.kids, low_eq, con_eq, isR]
    try rfl
  all_goals grind

def argsR (nm : Str) : Int × Int :=
  bif decide (nm = [105, 110, 116]) || decide (nm = [98, 111, 111, 108]) || decide (nm = [117, 110, 105, 116]) || decide (nm = [101, 120, 110]) then (0, 0) else bif decide (nm = [114, 101, 102]) then (1, 1) else bif decide (nm = [45, 62]) then (2, 2) else bif decide (nm = [42]) then (2, 8) else (0, 8)

theorem ref05_Args_spec (nm : Str) (s : St) : cw (.f F_ref05_Args) [.str nm] s = some (.ret (.val (.tup [.int .i64 (argsR nm).1, .int .i64 (argsR nm).2])), s) := by
  rw [ref05_Args_eq]
  simp only [go_sem, Nat.reduceAdd, Nat.reduceLeDiff, Nat.reduceSub, Nat.reduceMul, Nat.reduceEqDiff, Int.reduceEq, Int.reduceLT, Int.reduceLE, Int.reduceAdd, Int.reduceSub, Int.reduceNeg, Int.reduceGT, Int.reduceGE, Int.reduceNe, ne_eq, not_false_eq_true, ref05_Args_j0_eq]
  delta argsR
  generalize decide (nm = [105, 110, 116]) = x1
  generalize decide (nm = [98, 111, 111, 108]) = x2
  generalize decide (nm = [117, 110, 105, 116]) = x3
  generalize decide (nm = [101, 120, 110]) = x4
  generalize decide (nm = [114, 101, 102]) = x5
  generalize decide (nm = [45, 62]) = x6
  generalize decide (nm = [42]) = x7
  cases x1 <;> cases x2 <;> cases x3 <;> cases x4 <;> cases x5 <;> cases x6 <;> cases x7 <;> rfl

theorem ref05_zeroTy_spec (t : Ty) (s : St) : cw (.f F_ref05_zeroTy) [t.enc] s = some (.ret (.val (.bool (decide (t.kind = 0) && decide (t.n = 0) && decide (t.name = []) && decide ((t.args.length : Int) = 0)))), s) := by
  rw [ref05_zeroTy_eq]
  simp only [go_sem, Nat.reduceAdd, Nat.reduceLeDiff, Nat.reduceSub, Nat.reduceMul, Nat.reduceEqDiff, Int.reduceEq, Int.reduceLT, Int.reduceLE, Int.reduceAdd, Int.reduceSub, Int.reduceNeg, Int.reduceGT, Int.reduceGE, Int.reduceNe, ne_eq, not_false_eq_true, Ty.cells_eq]

theorem ref05_ty_spec (t : Ty) (s : St) (hn : t.name.length < 2^62) : cw (.f F_ref05_ty) [t.enc] s = some (.ret (.val (.int .i64 (wrongTyB t))), s) := by
  obtain ⟨k, n, nm, l, nl⟩ := t
  rw [ref05_ty_eq]
  simp only [go_sem, Nat.reduceAdd, Nat.reduceLeDiff, Nat.reduceSub, Nat.reduceMul, Nat.reduceEqDiff, Int.reduceEq, Int.reduceLT, Int.reduceLE, Int.reduceAdd, Int.reduceSub, Int.reduceNeg, Int.reduceGT, Int.reduceGE, Int.reduceNe, ne_eq, not_false_eq_true, ref05_Args_spec, ref05_Low_spec nm _ hn, ref05_is_spec, low_eq]
  show _ = some (Out.ret (.val (.int .i64 (wrongTyC k n nm l.length))), s)
  by_cases h1 : nm = [105, 110, 116]
  · subst h1; simp (decide := true) only [wrongTyC, tyLM, argsR, isR, low_int]; grind
  by_cases h2 : nm = [98, 111, 111, 108]
  · subst h2; simp (decide := true) only [wrongTyC, tyLM, argsR, isR, low_bool]; grind
  by_cases h3 : nm = [117, 110, 105, 116]
  · subst h3; simp (decide := true) only [wrongTyC, tyLM, argsR, isR, low_unit]; grind
  by_cases h4 : nm = [101, 120, 110]
  · subst h4; simp (decide := true) only [wrongTyC, tyLM, argsR, isR, low_exn]; grind
  simp only [wrongTyC, tyLM, argsR, isR, h1, h2, h3, h4]
  grind

theorem ref05_dec_spec (d : Dec) (inn : Bool) (s : St) (hn : d.name.length < 2^62) : cw (.f F_ref05_dec) [d.enc, .bool inn] s = some (.ret (.val (.int .i64 (wrongDecB d inn))), s) := by
  obtain ⟨k, a, nm, p, l, nb, c, cb, f, fb⟩ := d
  rw [ref05_dec_eq]
  simp only [go_sem, Nat.reduceAdd, Nat.reduceLeDiff, Nat.reduceSub, Nat.reduceMul, Nat.reduceEqDiff, Int.reduceEq, Int.reduceLT, Int.reduceLE, Int.reduceAdd, Int.reduceSub, Int.reduceNeg, Int.reduceGT, Int.reduceGE, Int.reduceNe, ne_eq, not_false_eq_true, ref05_Low_spec nm _ hn, ref05_is_spec, low_eq, isR]
  show _ = some (Out.ret (.val (.int .i64 (wrongDecC k nm p l.length c.length f.length inn))), s)
  have hk : k = 1 ∨ k = 2 ∨ k = 3 ∨ k = 4 ∨ (k ≠ 1 ∧ k ≠ 2 ∧ k ≠ 3 ∧ k ≠ 4) := by omega
  simp only [wrongDecC]
  rcases hk with rfl | rfl | rfl | rfl | ⟨h1, h2, h3, h4⟩
  all_goals grind

end Go.Proofs.Ytemfpnlpnmglfaa
