/- The document's answer for the tree layer: small tests. -/
import Derived.Test.YtemfpnlpnmglfaaPTree
import Derived.Test.YtemfpnlpnmglfaaG
set_option linter.unusedVariables false
set_option linter.unusedSimpArgs false
namespace Go.Proofs.Ytemfpnlpnmglfaa
open Go Go.Am

theorem ref05_letter_spec (n : Int) (c : Bool) (s : St) : cw (.f F_ref05_letter) [.int .u8 n, .bool c] s = some (.ret (.val (.bool (letterR n c))), s) := by
  rw [ref05_letter_eq]; cases c <;> simp only [go_sem, Nat.reduceAdd, Nat.reduceLeDiff, Nat.reduceSub, Nat.reduceMul, Nat.reduceEqDiff, Int.reduceEq, Int.reduceLT, Int.reduceLE, Int.reduceAdd, Int.reduceSub, Int.reduceNeg, Int.reduceGT, Int.reduceGE, Int.reduceNe, ne_eq, not_false_eq_true] <;> rfl
theorem ref05_rest_spec (n : Int) (s : St) : cw (.f F_ref05_rest) [.int .u8 n] s = some (.ret (.val (.bool (restR n))), s) := by
  rw [ref05_rest_eq]; simp only [go_sem, Nat.reduceAdd, Nat.reduceLeDiff, Nat.reduceSub, Nat.reduceMul, Nat.reduceEqDiff, Int.reduceEq, Int.reduceLT, Int.reduceLE, Int.reduceAdd, Int.reduceSub, Int.reduceNeg, Int.reduceGT, Int.reduceGE, Int.reduceNe, ne_eq, not_false_eq_true]; rfl
theorem ref05_is_spec (n a b : Int) (s : St) : cw (.f F_ref05_is) [.int .i64 n, .int .i64 a, .int .i64 b] s = some (.ret (.val (.bool (isR n a b))), s) := by
  rw [ref05_is_eq]; simp only [go_sem, Nat.reduceAdd, Nat.reduceLeDiff, Nat.reduceSub, Nat.reduceMul, Nat.reduceEqDiff, Int.reduceEq, Int.reduceLT, Int.reduceLE, Int.reduceAdd, Int.reduceSub, Int.reduceNeg, Int.reduceGT, Int.reduceGE, Int.reduceNe, ne_eq, not_false_eq_true]; rfl

theorem ref05_shaped_loop (l : Str) (pre : Str) : ∀ (suf : Str) (s : St), pre ++ suf = l → l.length < 2^62 → ref05_shaped_l0 (.val (.str l)) (.val (.int .i64 pre.length)) s = some (.ret (.val (.bool (suf.all fun c => restR c.toNat))), s) := by
  intro suf
  induction suf generalizing pre with
  | nil =>
    intro s h hl
    rw [List.append_nil] at h
    subst h
    rw [ref05_shaped_l0_eq]; simp only [lenS_str T_string_k, bind1_some, binS_lss, condS_bool]
    rw [ifR_neg (by simp)]
    rfl
  | cons c suf ih =>
    intro s h hl
    have hc : l[pre.length]? = some c := by rw [← h]; simp
    have hlt : pre.length < l.length := by rw [← h]; simp
    have := ih (pre ++ [c]) s (by simp [h]) hl
    rw [ref05_shaped_l0_eq]
    simp only [lenS_str T_string_k, bind1_some, binS_lss, condS_bool]
    rw [ifR_pos (by simpa using hlt), indexS_str T_string_k hc]
    simp only [go_sem, Nat.reduceAdd, Nat.reduceLeDiff, Nat.reduceSub, Nat.reduceMul, Nat.reduceEqDiff, Int.reduceEq, Int.reduceLT, Int.reduceLE, Int.reduceAdd, Int.reduceSub, Int.reduceNeg, Int.reduceGT, Int.reduceGE, Int.reduceNe, ne_eq, not_false_eq_true, ref05_rest_spec]
    rw [wrap64 (by omega) (by omega)]
    have e : (pre.length : Int) + 1 = ((pre ++ [c]).length : Int) := by simp
    rw [e, this]
    simp only [go_sem, Nat.reduceAdd, Nat.reduceLeDiff, Nat.reduceSub, Nat.reduceMul, Nat.reduceEqDiff, Int.reduceEq, Int.reduceLT, Int.reduceLE, Int.reduceAdd, Int.reduceSub, Int.reduceNeg, Int.reduceGT, Int.reduceGE, Int.reduceNe, ne_eq, not_false_eq_true, List.all_cons]
    cases restR c.toNat <;> rfl

theorem ref05_shaped_spec (l : Str) (c : Bool) (s : St) (hl : l.length < 2^62) : cw (.f F_ref05_shaped) [.str l, .bool c] s = some (.ret (.val (.bool (shapedR l c))), s) := by
  rw [ref05_shaped_eq]
  cases l with
  | nil => simp only [go_sem, Nat.reduceAdd, Nat.reduceLeDiff, Nat.reduceSub, Nat.reduceMul, Nat.reduceEqDiff, Int.reduceEq, Int.reduceLT, Int.reduceLE, Int.reduceAdd, Int.reduceSub, Int.reduceNeg, Int.reduceGT, Int.reduceGE, Int.reduceNe, ne_eq, not_false_eq_true]; rfl
  | cons x l =>
    have h := ref05_shaped_loop (x :: l) [x] l s rfl hl
    simp only [go_sem, Nat.reduceAdd, Nat.reduceLeDiff, Nat.reduceSub, Nat.reduceMul, Nat.reduceEqDiff, Int.reduceEq, Int.reduceLT, Int.reduceLE, Int.reduceAdd, Int.reduceSub, Int.reduceNeg, Int.reduceGT, Int.reduceGE, Int.reduceNe, ne_eq, not_false_eq_true, List.length_singleton] at h
    simp only [go_sem, Nat.reduceAdd, Nat.reduceLeDiff, Nat.reduceSub, Nat.reduceMul, Nat.reduceEqDiff, Int.reduceEq, Int.reduceLT, Int.reduceLE, Int.reduceAdd, Int.reduceSub, Int.reduceNeg, Int.reduceGT, Int.reduceGE, Int.reduceNe, ne_eq, not_false_eq_true, ref05_letter_spec, indexS_zero T_string_k (List.cons_ne_nil x l)]
    have h' : ref05_shaped_l0 (.val (.str (x :: l))) (.val (.int .i64 1)) s = some (.ret (.val (.bool (l.all fun c => restR c.toNat))), s) := h
    rw [h']
    show ifR _ _ _ = some (Out.ret (.val (.bool (!(decide (((l.length + 1 : Nat) : Int) < 1) || decide (((l.length + 1 : Nat) : Int) > 32) || !letterR (((x :: l).headD 0).toNat : Int) c) && (l.all fun c => restR c.toNat)))), s)
    generalize (decide (((l.length + 1 : Nat) : Int) < 1) || decide (((l.length + 1 : Nat) : Int) > 32) || !letterR (((x :: l).headD 0).toNat : Int) c) = b
    cases b <;> rfl

theorem ref05_Words_spec (s : St) : cw (.f F_ref05_Words) [] s = some (.ret (.full (wordsR.map .str)), s) := by
  rw [ref05_Words_eq]; simp only [go_sem, Nat.reduceAdd, Nat.reduceLeDiff, Nat.reduceSub, Nat.reduceMul, Nat.reduceEqDiff, Int.reduceEq, Int.reduceLT, Int.reduceLE, Int.reduceAdd, Int.reduceSub, Int.reduceNeg, Int.reduceGT, Int.reduceGE, Int.reduceNe, ne_eq, not_false_eq_true]; rfl

theorem ref05_among_loop (x : Str) (l : List Str) (pre : List Str) : ∀ (suf : List Str) (y : Slot) (s : St), y.list? = some (l.map .str) → pre ++ suf = l → l.length < 2^62 → ref05_among_l0 (.val (.str x)) y (.val (.int .i64 pre.length)) s = some (.ret (.val (.bool (amongR x suf))), s) := by
  intro suf
  induction suf generalizing pre with
  | nil =>
    intro y s hy h hl
    rw [List.append_nil] at h
    subst h
    rw [ref05_among_l0_eq]; simp only [go_sem, Nat.reduceAdd, Nat.reduceLeDiff, Nat.reduceSub, Nat.reduceMul, Nat.reduceEqDiff, Int.reduceEq, Int.reduceLT, Int.reduceLE, Int.reduceAdd, Int.reduceSub, Int.reduceNeg, Int.reduceGT, Int.reduceGE, Int.reduceNe, ne_eq, not_false_eq_true, hy]
    rw [ifR_neg (by simp)]
    rfl
  | cons c suf ih =>
    intro y s hy h hl
    have hc : (l.map AV.str)[pre.length]? = some (.str c) := by rw [← h]; simp
    have hlt : pre.length < l.length := by rw [← h]; simp
    have := ih (pre ++ [c]) y s hy (by simp [h]) hl
    rw [ref05_among_l0_eq]
    simp only [go_sem, Nat.reduceAdd, Nat.reduceLeDiff, Nat.reduceSub, Nat.reduceMul, Nat.reduceEqDiff, Int.reduceEq, Int.reduceLT, Int.reduceLE, Int.reduceAdd, Int.reduceSub, Int.reduceNeg, Int.reduceGT, Int.reduceGE, Int.reduceNe, ne_eq, not_false_eq_true, hy]
    rw [ifR_pos (by simpa using hlt), ixS_get (sz := 1) hy hc rfl (by decide)]
    simp only [go_sem, Nat.reduceAdd, Nat.reduceLeDiff, Nat.reduceSub, Nat.reduceMul, Nat.reduceEqDiff, Int.reduceEq, Int.reduceLT, Int.reduceLE, Int.reduceAdd, Int.reduceSub, Int.reduceNeg, Int.reduceGT, Int.reduceGE, Int.reduceNe, ne_eq, not_false_eq_true]
    rw [wrap64 (by omega) (by omega)]
    have e : (pre.length : Int) + 1 = ((pre ++ [c]).length : Int) := by simp
    rw [e, this]
    simp only [go_sem, Nat.reduceAdd, Nat.reduceLeDiff, Nat.reduceSub, Nat.reduceMul, Nat.reduceEqDiff, Int.reduceEq, Int.reduceLT, Int.reduceLE, Int.reduceAdd, Int.reduceSub, Int.reduceNeg, Int.reduceGT, Int.reduceGE, Int.reduceNe, ne_eq, not_false_eq_true, amongR, List.any_cons]
    cases decide (c = x) <;> rfl

theorem ref05_among_spec (x : Str) (l : List Str) (s : St) (hl : l.length < 2^62) (nl : Bool) : cw (.f F_ref05_among) [.str x, encS nl (l.map .str)] s = some (.ret (.val (.bool (amongR x l))), s) := by
  rw [ref05_among_eq]
  exact ref05_among_loop x l [] l _ s (by simp only [go_sem, Nat.reduceAdd, Nat.reduceLeDiff, Nat.reduceSub, Nat.reduceMul, Nat.reduceEqDiff, Int.reduceEq, Int.reduceLT, Int.reduceLE, Int.reduceAdd, Int.reduceSub, Int.reduceNeg, Int.reduceGT, Int.reduceGE, Int.reduceNe, ne_eq, not_false_eq_true]) rfl hl

theorem ref05_Low_spec (l : Str) (s : St) (hl : l.length < 2^62) : cw (.f F_ref05_Low) [.str l] s = some (.ret (.val (.bool (lowR l))), s) := by
  rw [ref05_Low_eq]
  have h := fun s => ref05_among_spec l wordsR s (by decide) false
  rw [encS_false] at h
  simp only [go_sem, Nat.reduceAdd, Nat.reduceLeDiff, Nat.reduceSub, Nat.reduceMul, Nat.reduceEqDiff, Int.reduceEq, Int.reduceLT, Int.reduceLE, Int.reduceAdd, Int.reduceSub, Int.reduceNeg, Int.reduceGT, Int.reduceGE, Int.reduceNe, ne_eq, not_false_eq_true, ref05_shaped_spec l _ _ hl, ref05_Words_spec, h]
  rfl

theorem ref05_Capital_spec (l : Str) (s : St) (hl : l.length < 2^62) : cw (.f F_ref05_Capital) [.str l] s = some (.ret (.val (.bool (capR l))), s) := by
  rw [ref05_Capital_eq]
  simp only [go_sem, Nat.reduceAdd, Nat.reduceLeDiff, Nat.reduceSub, Nat.reduceMul, Nat.reduceEqDiff, Int.reduceEq, Int.reduceLT, Int.reduceLE, Int.reduceAdd, Int.reduceSub, Int.reduceNeg, Int.reduceGT, Int.reduceGE, Int.reduceNe, ne_eq, not_false_eq_true, ref05_shaped_spec l _ _ hl]
  rfl
theorem ref05_Con_spec (l : Str) (s : St) (hl : l.length < 2^62) : cw (.f F_ref05_Con) [.str l] s = some (.ret (.val (.bool (conR l))), s) := by
  rw [ref05_Con_eq]
  simp only [go_sem, Nat.reduceAdd, Nat.reduceLeDiff, Nat.reduceSub, Nat.reduceMul, Nat.reduceEqDiff, Int.reduceEq, Int.reduceLT, Int.reduceLE, Int.reduceAdd, Int.reduceSub, Int.reduceNeg, Int.reduceGT, Int.reduceGE, Int.reduceNe, ne_eq, not_false_eq_true, ref05_Capital_spec l _ hl]
  rfl

theorem ref01_Wrap_spec (n : Int) (s : St) : cw (.f F_ref01_Wrap) [.int .i64 n] s = some (.ret (.val (.int .i64 (bif decide (n.tmod 2147483648 < 0) then (bif decide (n.tmod 2147483648 + 2147483648 ≥ 1073741824) then n.tmod 2147483648 else n.tmod 2147483648 + 2147483648) else (bif decide (n.tmod 2147483648 ≥ 1073741824) then n.tmod 2147483648 - 2147483648 else n.tmod 2147483648)))), s) := by
  rw [ref01_Wrap_eq]
  have h1 : -2147483648 < n.tmod 2147483648 := Int.lt_tmod_of_pos n (by decide)
  have h2 : n.tmod 2147483648 < 2147483648 := Int.tmod_lt_of_pos n (by decide)
  simp only [go_sem, Nat.reduceAdd, Nat.reduceLeDiff, Nat.reduceSub, Nat.reduceMul, Nat.reduceEqDiff, Int.reduceEq, Int.reduceLT, Int.reduceLE, Int.reduceAdd, Int.reduceSub, Int.reduceNeg, Int.reduceGT, Int.reduceGE, Int.reduceNe, ne_eq, not_false_eq_true, ref01_Wrap_j0_eq]
  generalize n.tmod 2147483648 = m at *
  by_cases h : m < 0
  · simp only [go_sem, Nat.reduceAdd, Nat.reduceLeDiff, Nat.reduceSub, Nat.reduceMul, Nat.reduceEqDiff, Int.reduceEq, Int.reduceLT, Int.reduceLE, Int.reduceAdd, Int.reduceSub, Int.reduceNeg, Int.reduceGT, Int.reduceGE, Int.reduceNe, ne_eq, not_false_eq_true, decide_eq_true h]
    rw [wrap64 (n := m + 2147483648) (by omega) (by omega), wrap64 (by omega) (by omega)]
    congr; omega
  · simp only [go_sem, Nat.reduceAdd, Nat.reduceLeDiff, Nat.reduceSub, Nat.reduceMul, Nat.reduceEqDiff, Int.reduceEq, Int.reduceLT, Int.reduceLE, Int.reduceAdd, Int.reduceSub, Int.reduceNeg, Int.reduceGT, Int.reduceGE, Int.reduceNe, ne_eq, not_false_eq_true, decide_eq_false h]
    rw [wrap64 (n := m - 2147483648) (by omega) (by omega)]

end Go.Proofs.Ytemfpnlpnmglfaa
