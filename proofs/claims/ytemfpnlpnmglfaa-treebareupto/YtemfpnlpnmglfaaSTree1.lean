/- The tree layer's small tests: what they compute. -/
import Derived.Test.YtemfpnlpnmglfaaPTree
import Derived.Test.YtemfpnlpnmglfaaG
set_option linter.unusedVariables false
set_option linter.unusedSimpArgs false
namespace Go.Proofs.Ytemfpnlpnmglfaa
open Go Go.Am

theorem tree_small_spec (n : Int) (s : St) : cw (.f F_tree_small) [.int .u8 n] s = some (.ret (.val (.bool (smallB n))), s) := by
  rw [tree_small_eq]; simp only [go_sem, Nat.reduceAdd, Nat.reduceLeDiff, Nat.reduceSub, Nat.reduceMul, Nat.reduceEqDiff, Int.reduceEq, Int.reduceLT, Int.reduceLE, Int.reduceAdd, Int.reduceSub, Int.reduceNeg, Int.reduceGT, Int.reduceGE, Int.reduceNe, ne_eq, not_false_eq_true]; rfl
theorem tree_great_spec (n : Int) (s : St) : cw (.f F_tree_great) [.int .u8 n] s = some (.ret (.val (.bool (greatB n))), s) := by
  rw [tree_great_eq]; simp only [go_sem, Nat.reduceAdd, Nat.reduceLeDiff, Nat.reduceSub, Nat.reduceMul, Nat.reduceEqDiff, Int.reduceEq, Int.reduceLT, Int.reduceLE, Int.reduceAdd, Int.reduceSub, Int.reduceNeg, Int.reduceGT, Int.reduceGE, Int.reduceNe, ne_eq, not_false_eq_true]; rfl
theorem tree_isInt_spec (n : Int) (s : St) : cw (.f F_tree_isInt) [.int .i64 n] s = some (.ret (.val (.bool (isIntB n))), s) := by
  rw [tree_isInt_eq]; simp only [go_sem, Nat.reduceAdd, Nat.reduceLeDiff, Nat.reduceSub, Nat.reduceMul, Nat.reduceEqDiff, Int.reduceEq, Int.reduceLT, Int.reduceLE, Int.reduceAdd, Int.reduceSub, Int.reduceNeg, Int.reduceGT, Int.reduceGE, Int.reduceNe, ne_eq, not_false_eq_true]; rfl

theorem tree_run_loop (l : Str) (pre : Str) : ∀ (suf : Str) (s : St), pre ++ suf = l → l.length < 2^62 → tree_run_l0 (.val (.str l)) (.val (.int .i64 pre.length)) s = some (.ret (.val (.bool (restAll suf && decide (l.length ≤ 32)))), s) := by
  intro suf
  induction suf generalizing pre with
  | nil =>
    intro s h hl
    rw [List.append_nil] at h
    subst h
    rw [tree_run_l0_eq]; simp only [lenS_str T_string_k, bind1_some, binS_lss, condS_bool]
    rw [ifR_neg (by simp)]
    simp only [go_sem, Nat.reduceAdd, Nat.reduceLeDiff, Nat.reduceSub, Nat.reduceMul, Nat.reduceEqDiff, Int.reduceEq, Int.reduceLT, Int.reduceLE, Int.reduceAdd, Int.reduceSub, Int.reduceNeg, Int.reduceGT, Int.reduceGE, Int.reduceNe, ne_eq, not_false_eq_true]
    simp [restAll]
    omega
  | cons c suf ih =>
    intro s h hl
    have hc : l[pre.length]? = some c := by rw [← h]; simp
    have hlt : pre.length < l.length := by rw [← h]; simp
    have := ih (pre ++ [c]) s (by simp [h]) hl
    rw [tree_run_l0_eq]
    simp only [lenS_str T_string_k, bind1_some, binS_lss, condS_bool]
    rw [ifR_pos (by simpa using hlt), indexS_str T_string_k hc]
    simp only [go_sem, Nat.reduceAdd, Nat.reduceLeDiff, Nat.reduceSub, Nat.reduceMul, Nat.reduceEqDiff, Int.reduceEq, Int.reduceLT, Int.reduceLE, Int.reduceAdd, Int.reduceSub, Int.reduceNeg, Int.reduceGT, Int.reduceGE, Int.reduceNe, ne_eq, not_false_eq_true, tree_small_spec, tree_great_spec]
    rw [wrap64 (by omega) (by omega)]
    have e : (pre.length : Int) + 1 = ((pre ++ [c]).length : Int) := by simp
    rw [e, this]
    simp only [go_sem, restAll, List.all_cons, unrestB]
    cases (!smallB c.toNat && !greatB c.toNat && (decide ((c.toNat : Int) < 48) || decide ((c.toNat : Int) > 57)) && !decide ((c.toNat : Int) = 39)) <;> simp

theorem tree_run_spec (l : Str) (s : St) (h0 : l ≠ []) (hl : l.length < 2^62) : cw (.f F_tree_run) [.str l] s = some (.ret (.val (.bool (runB l))), s) := by
  rw [tree_run_eq]
  cases l with
  | nil => exact absurd rfl h0
  | cons c l => exact tree_run_loop (c :: l) [c] l s rfl hl

theorem strings_Contains_spec (a b : Str) (s : St) (h : a.length < 4294967281) : cw (.f F_strings_Contains) [.str a, .str b] s = some (.ret (.val (.bool (Go.Lib.contains a b))), s) := by
  have e : C.ext F_strings_Contains = some extContains := by kernel_rfl
  rw [cw, callw_f]; unfold callR; rw [e]; simp [extContains, h]

theorem tree_capital_spec (l : Str) (s : St) (hl : l.length < 2^62) : cw (.f F_tree_capital) [.str l] s = some (.ret (.val (.bool (capB l))), s) := by
  rw [tree_capital_eq]
  by_cases h0 : l = []
  · subst h0; simp only [go_sem, Nat.reduceAdd, Nat.reduceLeDiff, Nat.reduceSub, Nat.reduceMul, Nat.reduceEqDiff, Int.reduceEq, Int.reduceLT, Int.reduceLE, Int.reduceAdd, Int.reduceSub, Int.reduceNeg, Int.reduceGT, Int.reduceGE, Int.reduceNe, ne_eq, not_false_eq_true]; rfl
  · simp only [go_sem, Nat.reduceAdd, Nat.reduceLeDiff, Nat.reduceSub, Nat.reduceMul, Nat.reduceEqDiff, Int.reduceEq, Int.reduceLT, Int.reduceLE, Int.reduceAdd, Int.reduceSub, Int.reduceNeg, Int.reduceGT, Int.reduceGE, Int.reduceNe, ne_eq, not_false_eq_true, h0, tree_great_spec, not_false_eq_true, indexS_zero T_string_k h0, tree_run_spec l s h0 hl]
    simp [capB, h0, headB]

theorem tree_constructor_spec (l : Str) (s : St) (hl : l.length < 2^62) : cw (.f F_tree_constructor) [.str l] s = some (.ret (.val (.bool (conB l))), s) := by
  rw [tree_constructor_eq]
  simp only [go_sem, Nat.reduceAdd, Nat.reduceLeDiff, Nat.reduceSub, Nat.reduceMul, Nat.reduceEqDiff, Int.reduceEq, Int.reduceLT, Int.reduceLE, Int.reduceAdd, Int.reduceSub, Int.reduceNeg, Int.reduceGT, Int.reduceGE, Int.reduceNe, ne_eq, not_false_eq_true, tree_capital_spec l s hl]
  rfl

theorem tree_low_spec (l : Str) (s : St) (hl : l.length < 2^62) : cw (.f F_tree_low) [.str l] s = some (.ret (.val (.bool (lowB l))), s) := by
  rw [tree_low_eq]
  by_cases h0 : l = []
  · subst h0; simp only [go_sem, Nat.reduceAdd, Nat.reduceLeDiff, Nat.reduceSub, Nat.reduceMul, Nat.reduceEqDiff, Int.reduceEq, Int.reduceLT, Int.reduceLE, Int.reduceAdd, Int.reduceSub, Int.reduceNeg, Int.reduceGT, Int.reduceGE, Int.reduceNe, ne_eq, not_false_eq_true]; rfl
  · have hk : K_80c441cf = wordsS := by decide +kernel
    have hc := fun b s => strings_Contains_spec wordsS b s (by decide +kernel)
    simp only [go_sem, Nat.reduceAdd, Nat.reduceLeDiff, Nat.reduceSub, Nat.reduceMul, Nat.reduceEqDiff, Int.reduceEq, Int.reduceLT, Int.reduceLE, Int.reduceAdd, Int.reduceSub, Int.reduceNeg, Int.reduceGT, Int.reduceGE, Int.reduceNe, ne_eq, not_false_eq_true, h0, tree_small_spec, not_false_eq_true, indexS_zero T_string_k h0, tree_run_spec l s h0 hl, binS_sadd (C.ti T_string) [32] l (by simp; omega), binS_sadd (C.ti T_string) (32 :: l) [32] (by simp; omega), hk, hc]
    simp [lowB, h0, headB, Bool.and_assoc]

end Go.Proofs.Ytemfpnlpnmglfaa
