/- A part of the proof: SLex1, SLex2, SLex3, SLex4, PLex2, SLex5, SLex6, SLex7, SLex8, PLex3, SLex9, SLexK, LLexScans. -/
import Derived.Test.YtadhckhgemongaaDoorM3
set_option linter.unusedVariables false
set_option linter.unusedSimpArgs false
namespace Go.Proofs.YtadhckhgemongaaDoor
open Go Go.Am
set_option linter.unusedVariables false
theorem lex_digit_spec (n : Int) (s : St) : cw (.f F_lex_digit) [.int .u8 n] s = some (.ret (.val (.bool (digB n))), s) := by
  rw [lex_digit_eq]; simp only [go_sem, Nat.reduceAdd, Nat.reduceLeDiff, Nat.reduceSub, Nat.reduceMul, Nat.reduceEqDiff, Int.reduceEq, Int.reduceLT, Int.reduceLE, Int.reduceAdd, Int.reduceSub, Int.reduceNeg, Int.reduceGT, Int.reduceGE, Int.reduceNe, ne_eq, not_false_eq_true]; rfl
theorem lex_first_spec (n : Int) (s : St) : cw (.f F_lex_first) [.int .u8 n] s = some (.ret (.val (.bool (firB n))), s) := by
  rw [lex_first_eq]; simp only [go_sem, Nat.reduceAdd, Nat.reduceLeDiff, Nat.reduceSub, Nat.reduceMul, Nat.reduceEqDiff, Int.reduceEq, Int.reduceLT, Int.reduceLE, Int.reduceAdd, Int.reduceSub, Int.reduceNeg, Int.reduceGT, Int.reduceGE, Int.reduceNe, ne_eq, not_false_eq_true]; rfl
theorem lex_among_spec (n : Int) (s : St) : cw (.f F_lex_among) [.int .u8 n] s = some (.ret (.val (.bool (amoB n))), s) := by
  rw [lex_among_eq]; simp only [go_sem, Nat.reduceAdd, Nat.reduceLeDiff, Nat.reduceSub, Nat.reduceMul, Nat.reduceEqDiff, Int.reduceEq, Int.reduceLT, Int.reduceLE, Int.reduceAdd, Int.reduceSub, Int.reduceNeg, Int.reduceGT, Int.reduceGE, Int.reduceNe, ne_eq, not_false_eq_true, lex_first_spec, lex_digit_spec]
  unfold amoB
  cases firB n <;> cases digB n <;> rfl
theorem upto_loop (F : Nat) (p : Int → Bool) (hF : ∀ n s, cw (.f F) [.int .u8 n] s = some (.ret (.val (.bool (p n))), s)) (L : Str) (hl : L.length < 2^62) : ∀ (suf pre : Str) (s : St) (i : Nat), pre ++ suf = L → i = pre.length →
    lex_one_1_l0 (.val (.fn F [])) (.val (.cp [.str L])) (.val (.int .i64 (i : Int))) s = some (.ret (.val (.str (pre ++ suf.takeWhile fun c => p c.toNat))), s) := by
  intro suf
  induction suf with
  | nil =>
    intro pre s i h hi
    rw [List.append_nil] at h
    subst h hi
    rw [lex_one_1_l0_eq]
    simp only [go_sem, Nat.reduceAdd, Nat.reduceLeDiff, Nat.reduceSub, Nat.reduceMul, Nat.reduceEqDiff, Int.reduceEq, Int.reduceLT, Int.reduceLE, Int.reduceAdd, Int.reduceSub, Int.reduceNeg, Int.reduceGT, Int.reduceGE, Int.reduceNe, ne_eq, not_false_eq_true, Int.lt_irrefl, sliceS_to T_string_k (Nat.le_refl pre.length)]
    simp
  | cons c suf ih =>
    intro pre s i h hi
    subst hi
    have hc : L[pre.length]? = some c := by rw [← h]; simp
    have hlt : pre.length < L.length := by rw [← h]; simp
    have := ih (pre ++ [c]) s (pre ++ [c]).length (by simp [h]) rfl
    rw [lex_one_1_l0_eq]
    have hb : decide ((pre.length : Int) < (L.length : Int)) = true := by simpa using hlt
    simp only [go_sem, Nat.reduceAdd, Nat.reduceLeDiff, Nat.reduceSub, Nat.reduceMul, Nat.reduceEqDiff, Int.reduceEq, Int.reduceLT, Int.reduceLE, Int.reduceAdd, Int.reduceSub, Int.reduceNeg, Int.reduceGT, Int.reduceGE, Int.reduceNe, ne_eq, not_false_eq_true, hb, indexS_str T_string_k hc, hF]
    rw [wrap64 (by omega) (by omega)]
    have e : (pre.length : Int) + 1 = ((pre ++ [c]).length : Int) := by simp
    rw [e, this, List.takeWhile_cons]
    cases hp : p c.toNat
    · simp only [go_sem, Nat.reduceAdd, Nat.reduceLeDiff, Nat.reduceSub, Nat.reduceMul, Nat.reduceEqDiff, Int.reduceEq, Int.reduceLT, Int.reduceLE, Int.reduceAdd, Int.reduceSub, Int.reduceNeg, Int.reduceGT, Int.reduceGE, Int.reduceNe, ne_eq, not_false_eq_true, sliceS_to T_string_k (Nat.le_of_lt hlt)]
      rw [← h]; simp
    · simp only [go_sem, Nat.reduceAdd, Nat.reduceLeDiff, Nat.reduceSub, Nat.reduceMul, Nat.reduceEqDiff, Int.reduceEq, Int.reduceLT, Int.reduceLE, Int.reduceAdd, Int.reduceSub, Int.reduceNeg, Int.reduceGT, Int.reduceGE, Int.reduceNe, ne_eq, not_false_eq_true]
theorem upto_spec (F : Nat) (p : Int → Bool) (hF : ∀ n s, cw (.f F) [.int .u8 n] s = some (.ret (.val (.bool (p n))), s)) (pre suf : Str) (i : Nat) (hi : i = pre.length) (hl : (pre ++ suf).length < 2^62) (s : St) :
    cw (.f F_lex_one_1) [.int .i64 (i : Int), .fn F [], .cp [.str (pre ++ suf)]] s = some (.ret (.val (.str (pre ++ suf.takeWhile fun c => p c.toNat))), s) := by
  rw [lex_one_1_eq]
  exact upto_loop F p hF (pre ++ suf) hl suf pre s i rfl hi
theorem index_loop (x : Str) (L : List Str) (hl : L.length < 2^62) : ∀ (suf pre : List Str) (s : St) (i : Nat), pre ++ suf = L → i = pre.length →
    ∃ k : Int, slices_Index_Sstring_string_l0 (.val (.sl (L.map .str))) (.val (.str x)) (.val (.int .i64 L.length)) (.val (.int .i64 (i : Int))) s = some (.ret (.val (.int .i64 k)), s) ∧ decide (k ≥ 0) = hasL suf x := by
  intro suf
  induction suf with
  | nil =>
    intro pre s i h hi
    rw [List.append_nil] at h
    subst h hi
    rw [slices_Index_Sstring_string_l0_eq]
    simp only [go_sem, Nat.reduceAdd, Nat.reduceLeDiff, Nat.reduceSub, Nat.reduceMul, Nat.reduceEqDiff, Int.reduceEq, Int.reduceLT, Int.reduceLE, Int.reduceAdd, Int.reduceSub, Int.reduceNeg, Int.reduceGT, Int.reduceGE, Int.reduceNe, ne_eq, not_false_eq_true, Int.lt_irrefl]
    exact ⟨-1, rfl, rfl⟩
  | cons c suf ih =>
    intro pre s i h hi
    subst hi
    obtain ⟨f1, f2, f3⟩ := step_facts (f := AV.str) (x := .val (.sl (L.map .str))) (sz := 1) rfl h hl rfl (by decide)
    obtain ⟨k, h1, h2⟩ := ih (pre ++ [c]) s (pre.length + 1) (by simp [h]) (by simp)
    rw [slices_Index_Sstring_string_l0_eq]
    simp only [go_sem, Nat.reduceAdd, Nat.reduceLeDiff, Nat.reduceSub, Nat.reduceMul, Nat.reduceEqDiff, Int.reduceEq, Int.reduceLT, Int.reduceLE, Int.reduceAdd, Int.reduceSub, Int.reduceNeg, Int.reduceGT, Int.reduceGE, Int.reduceNe, ne_eq, not_false_eq_true, f1, f2, f3]
    rw [h1]
    simp only [hasL, List.any_cons]
    by_cases hx : x = c
    · subst hx
      simp only [go_sem, Nat.reduceAdd, Nat.reduceLeDiff, Nat.reduceSub, Nat.reduceMul, Nat.reduceEqDiff, Int.reduceEq, Int.reduceLT, Int.reduceLE, Int.reduceAdd, Int.reduceSub, Int.reduceNeg, Int.reduceGT, Int.reduceGE, Int.reduceNe, ne_eq, not_false_eq_true]
      exact ⟨_, rfl, by simp⟩
    · simp only [go_sem, Nat.reduceAdd, Nat.reduceLeDiff, Nat.reduceSub, Nat.reduceMul, Nat.reduceEqDiff, Int.reduceEq, Int.reduceLT, Int.reduceLE, Int.reduceAdd, Int.reduceSub, Int.reduceNeg, Int.reduceGT, Int.reduceGE, Int.reduceNe, ne_eq, not_false_eq_true, hx]
      exact ⟨k, rfl, h2⟩
theorem contains_spec (x : Str) (L : List Str) (hl : L.length < 2^62) (s : St) : cw (.f F_slices_Contains_Sstring_string) [.sl (L.map .str), .str x] s = some (.ret (.val (.bool (hasL L x))), s) := by
  rw [slices_Contains_Sstring_string_eq]
  obtain ⟨k, h1, h2⟩ := index_loop x L hl L [] s 0 rfl rfl
  have hi : cw (.f F_slices_Index_Sstring_string) [.sl (L.map .str), .str x] s = some (.ret (.val (.int .i64 k)), s) := by
    rw [slices_Index_Sstring_string_eq]
    simp only [go_sem, Nat.reduceAdd, Nat.reduceLeDiff, Nat.reduceSub, Nat.reduceMul, Nat.reduceEqDiff, Int.reduceEq, Int.reduceLT, Int.reduceLE, Int.reduceAdd, Int.reduceSub, Int.reduceNeg, Int.reduceGT, Int.reduceGE, Int.reduceNe, ne_eq, not_false_eq_true]
    exact h1
  simp only [go_sem, Nat.reduceAdd, Nat.reduceLeDiff, Nat.reduceSub, Nat.reduceMul, Nat.reduceEqDiff, Int.reduceEq, Int.reduceLT, Int.reduceLE, Int.reduceAdd, Int.reduceSub, Int.reduceNeg, Int.reduceGT, Int.reduceGE, Int.reduceNe, ne_eq, not_false_eq_true, hi, h2]
theorem hasPrefix_spec (a b : Str) (s : St) : cw (.f F_strings_HasPrefix) [.str a, .str b] s = some (.ret (.val (.bool (decide (b.length ≤ a.length) && decide (a.take b.length = b)))), s) := by
  have h : cw (.f F_internal_stringslite_HasPrefix) [.str a, .str b] s = some (.ret (.val (.bool (decide (b.length ≤ a.length) && decide (a.take b.length = b)))), s) := by
    rw [internal_stringslite_HasPrefix_eq]
    by_cases hb : b.length ≤ a.length
    · have hb' : decide ((a.length : Int) ≥ (b.length : Int)) = true := by simpa using hb
      simp only [go_sem, Nat.reduceAdd, Nat.reduceLeDiff, Nat.reduceSub, Nat.reduceMul, Nat.reduceEqDiff, Int.reduceEq, Int.reduceLT, Int.reduceLE, Int.reduceAdd, Int.reduceSub, Int.reduceNeg, Int.reduceGT, Int.reduceGE, Int.reduceNe, ne_eq, not_false_eq_true, hb', hb, sliceS_to T_string_k hb]
    · have hb' : decide ((a.length : Int) ≥ (b.length : Int)) = false := by simpa using hb
      simp only [go_sem, Nat.reduceAdd, Nat.reduceLeDiff, Nat.reduceSub, Nat.reduceMul, Nat.reduceEqDiff, Int.reduceEq, Int.reduceLT, Int.reduceLE, Int.reduceAdd, Int.reduceSub, Int.reduceNeg, Int.reduceGT, Int.reduceGE, Int.reduceNe, ne_eq, not_false_eq_true, hb', hb]
  rw [strings_HasPrefix_eq]
  simp only [go_sem, Nat.reduceAdd, Nat.reduceLeDiff, Nat.reduceSub, Nat.reduceMul, Nat.reduceEqDiff, Int.reduceEq, Int.reduceLT, Int.reduceLE, Int.reduceAdd, Int.reduceSub, Int.reduceNeg, Int.reduceGT, Int.reduceGE, Int.reduceNe, ne_eq, not_false_eq_true, h]
theorem indexByte_spec (a : Str) (c : UInt8) (s : St) : cw (.f F_strings_IndexByte) [.str a, .int .u8 c.toNat] s = some (.ret (.val (.int .i64 (Go.Lib.indexByte a c))), s) := by
  have e : C.ext F_strings_IndexByte = some extIndexByte := by kernel_rfl
  rw [cw, callw_f]; unfold callR; rw [e]; simp [extIndexByte]
theorem blank_eq (c : UInt8) : decide (Go.Lib.indexByte [32, 9, 10, 13] c ≥ 0) = blankC c := by
  simp only [Go.Lib.indexByte, blankC]
  by_cases h1 : c = 32
  · subst h1; rfl
  by_cases h2 : c = 9
  · subst h2; rfl
  by_cases h3 : c = 10
  · subst h3; rfl
  by_cases h4 : c = 13
  · subst h4; rfl
  have g : ∀ x : UInt8, c ≠ x → (x == c) = false := fun x h => by simp [Ne.symm h]
  simp [g _ h1, g _ h2, g _ h3, g _ h4, h1, h2, h3, h4]
theorem remark_loop (L : Str) (hl : L.length < 2^61) : ∀ (suf pre : Str) (d : Int) (s : St) (i : Nat), pre ++ suf = L → i = pre.length → -(pre.length : Int) ≤ d → d ≤ pre.length →
    lex_remark_l0 (.val (.str L)) (.val (.int .i64 (i : Int))) (.val (.int .i64 d)) s = some (.ret (.val (.int .i64 (match lxCom d suf with | some k => ((i + k : Nat) : Int) | none => -1))), s) := by
  intro suf
  generalize hn : suf.length = n
  induction n using Nat.strongRecOn generalizing suf with
  | ind n ih =>
    intro pre d s i h hi hd1 hd2
    subst hi
    have hL : pre.length + suf.length = L.length := by rw [← h]; simp
    rw [lex_remark_l0_eq]
    match suf, hn, h, hL with
    | [], _, h, hL =>
      simp only [List.length_nil, Nat.add_zero] at hL
      simp only [go_sem, Nat.reduceAdd, Nat.reduceLeDiff, Nat.reduceSub, Nat.reduceMul, Nat.reduceEqDiff, Int.reduceEq, Int.reduceLT, Int.reduceLE, Int.reduceAdd, Int.reduceSub, Int.reduceNeg, Int.reduceGT, Int.reduceGE, Int.reduceNe, ne_eq, not_false_eq_true]
      rw [wrap64 (by omega) (by omega)]
      have hb : decide ((pre.length : Int) + 1 < (L.length : Int)) = false := by simp; omega
      simp only [go_sem, Nat.reduceAdd, Nat.reduceLeDiff, Nat.reduceSub, Nat.reduceMul, Nat.reduceEqDiff, Int.reduceEq, Int.reduceLT, Int.reduceLE, Int.reduceAdd, Int.reduceSub, Int.reduceNeg, Int.reduceGT, Int.reduceGE, Int.reduceNe, ne_eq, not_false_eq_true, hb, lxCom]
    | [_], _, h, hL =>
      simp only [List.length_cons, List.length_nil] at hL
      simp only [go_sem, Nat.reduceAdd, Nat.reduceLeDiff, Nat.reduceSub, Nat.reduceMul, Nat.reduceEqDiff, Int.reduceEq, Int.reduceLT, Int.reduceLE, Int.reduceAdd, Int.reduceSub, Int.reduceNeg, Int.reduceGT, Int.reduceGE, Int.reduceNe, ne_eq, not_false_eq_true]
      rw [wrap64 (by omega) (by omega)]
      have hb : decide ((pre.length : Int) + 1 < (L.length : Int)) = false := by simp; omega
      simp only [go_sem, Nat.reduceAdd, Nat.reduceLeDiff, Nat.reduceSub, Nat.reduceMul, Nat.reduceEqDiff, Int.reduceEq, Int.reduceLT, Int.reduceLE, Int.reduceAdd, Int.reduceSub, Int.reduceNeg, Int.reduceGT, Int.reduceGE, Int.reduceNe, ne_eq, not_false_eq_true, hb, lxCom]
    | a :: b :: r, hn, h, hL =>
      simp only [List.length_cons] at hL hn
      simp only [go_sem, Nat.reduceAdd, Nat.reduceLeDiff, Nat.reduceSub, Nat.reduceMul, Nat.reduceEqDiff, Int.reduceEq, Int.reduceLT, Int.reduceLE, Int.reduceAdd, Int.reduceSub, Int.reduceNeg, Int.reduceGT, Int.reduceGE, Int.reduceNe, ne_eq, not_false_eq_true]
      rw [wrap64 (by omega) (by omega), wrap64 (by omega) (by omega)]
      have hb : decide ((pre.length : Int) + 1 < (L.length : Int)) = true := by simp; omega
      have hs := sliceS_mid (t := C.ti T_string) T_string_k (l := L) (i := pre.length) (j := pre.length + 2) (by omega) (by omega)
      have ht : (L.take (pre.length + 2)).drop pre.length = [a, b] := by rw [← h, mid_app]; rfl
      rw [ht] at hs
      have e2 : (pre.length : Int) + 2 = ((pre.length + 2 : Nat) : Int) := by omega
      rw [e2]
      simp only [go_sem, Nat.reduceAdd, Nat.reduceLeDiff, Nat.reduceSub, Nat.reduceMul, Nat.reduceEqDiff, Int.reduceEq, Int.reduceLT, Int.reduceLE, Int.reduceAdd, Int.reduceSub, Int.reduceNeg, Int.reduceGT, Int.reduceGE, Int.reduceNe, ne_eq, not_false_eq_true, hb, hs]
      rw [wrap64 (by omega) (by omega), wrap64 (by omega) (by omega)]
      have i1 := ih r.length (by omega) r rfl (pre ++ [a, b]) (d + 1) s (pre.length + 2) (by simp [h]) (by simp) (by simp; omega) (by simp; omega)
      have i2 := ih r.length (by omega) r rfl (pre ++ [a, b]) (d - 1) s (pre.length + 2) (by simp [h]) (by simp) (by simp; omega) (by simp; omega)
      have i3 := ih (r.length + 1) (by omega) (b :: r) (by simp) (pre ++ [a]) d s (pre.length + 1) (by simp [h]) (by simp) (by simp; omega) (by simp; omega)
      have e1 : (pre.length : Int) + 1 = ((pre.length + 1 : Nat) : Int) := by omega
      rw [e1, i1, i2, i3]
      rw [com_cons]
      have c1 : decide ([a, b] = [40, 42]) = (decide (a = 40) && decide (b = 42)) := by simp [Bool.decide_and]
      have c2 : decide ([a, b] = [42, 41]) = (decide (a = 42) && decide (b = 41)) := by simp [Bool.decide_and]
      rw [c1, c2]
      cases decide (a = 40) && decide (b = 42)
      · cases decide (a = 42) && decide (b = 41)
        · simp only [go_sem, Nat.reduceAdd, Nat.reduceLeDiff, Nat.reduceSub, Nat.reduceMul, Nat.reduceEqDiff, Int.reduceEq, Int.reduceLT, Int.reduceLE, Int.reduceAdd, Int.reduceSub, Int.reduceNeg, Int.reduceGT, Int.reduceGE, Int.reduceNe, ne_eq, not_false_eq_true]
          cases lxCom d (b :: r) <;> simp only [go_sem, Nat.reduceAdd, Nat.reduceLeDiff, Nat.reduceSub, Nat.reduceMul, Nat.reduceEqDiff, Int.reduceEq, Int.reduceLT, Int.reduceLE, Int.reduceAdd, Int.reduceSub, Int.reduceNeg, Int.reduceGT, Int.reduceGE, Int.reduceNe, ne_eq, not_false_eq_true]
          simp; omega
        · simp only [go_sem, Nat.reduceAdd, Nat.reduceLeDiff, Nat.reduceSub, Nat.reduceMul, Nat.reduceEqDiff, Int.reduceEq, Int.reduceLT, Int.reduceLE, Int.reduceAdd, Int.reduceSub, Int.reduceNeg, Int.reduceGT, Int.reduceGE, Int.reduceNe, ne_eq, not_false_eq_true]
          cases decide (d - 1 = 0)
          · simp only [go_sem, Nat.reduceAdd, Nat.reduceLeDiff, Nat.reduceSub, Nat.reduceMul, Nat.reduceEqDiff, Int.reduceEq, Int.reduceLT, Int.reduceLE, Int.reduceAdd, Int.reduceSub, Int.reduceNeg, Int.reduceGT, Int.reduceGE, Int.reduceNe, ne_eq, not_false_eq_true]
            cases lxCom (d - 1) r <;> simp only [go_sem, Nat.reduceAdd, Nat.reduceLeDiff, Nat.reduceSub, Nat.reduceMul, Nat.reduceEqDiff, Int.reduceEq, Int.reduceLT, Int.reduceLE, Int.reduceAdd, Int.reduceSub, Int.reduceNeg, Int.reduceGT, Int.reduceGE, Int.reduceNe, ne_eq, not_false_eq_true]
            simp; omega
          · simp only [go_sem, Nat.reduceAdd, Nat.reduceLeDiff, Nat.reduceSub, Nat.reduceMul, Nat.reduceEqDiff, Int.reduceEq, Int.reduceLT, Int.reduceLE, Int.reduceAdd, Int.reduceSub, Int.reduceNeg, Int.reduceGT, Int.reduceGE, Int.reduceNe, ne_eq, not_false_eq_true]
      · simp only [go_sem, Nat.reduceAdd, Nat.reduceLeDiff, Nat.reduceSub, Nat.reduceMul, Nat.reduceEqDiff, Int.reduceEq, Int.reduceLT, Int.reduceLE, Int.reduceAdd, Int.reduceSub, Int.reduceNeg, Int.reduceGT, Int.reduceGE, Int.reduceNe, ne_eq, not_false_eq_true]
        cases lxCom (d + 1) r <;> simp only [go_sem, Nat.reduceAdd, Nat.reduceLeDiff, Nat.reduceSub, Nat.reduceMul, Nat.reduceEqDiff, Int.reduceEq, Int.reduceLT, Int.reduceLE, Int.reduceAdd, Int.reduceSub, Int.reduceNeg, Int.reduceGT, Int.reduceGE, Int.reduceNe, ne_eq, not_false_eq_true]
        simp; omega
theorem lex_remark_spec (pre suf : Str) (hl : (pre ++ suf).length < 2^61) (s : St) : cw (.f F_lex_remark) [.str (pre ++ suf), .int .i64 (pre.length : Int)] s = some (.ret (.val (.int .i64 (match lxCom 0 suf with | some k => ((pre.length + k : Nat) : Int) | none => -1))), s) := by
  rw [lex_remark_eq]
  exact remark_loop (pre ++ suf) hl suf pre 0 s pre.length rfl rfl (by omega) (by omega)
end Go.Proofs.YtadhckhgemongaaDoor

namespace Go.Proofs.YtadhckhgemongaaDoor
open Go Go.Am
set_option linter.unusedVariables false
theorem wrapU8 {n : Int} (h : 0 ≤ n) (g : n ≤ 255) : IntKind.u8.wrap n = n := by
  unfold IntKind.wrap
  simp [IntKind.bits, IntKind.signed]
  omega
theorem convS_u8 (n : Int) : convS (C.ti T_uint8) (C.ti T_int) (.val (.int .u8 n)) = some (.val (.int .i64 (IntKind.i64.wrap n))) := by
  simp only [convS, T_int_k, T_uint8_k]
theorem dig_bounds {c : UInt8} (h : digC c = true) : (48 : Int) ≤ c.toNat ∧ (c.toNat : Int) ≤ 57 := by
  simp only [digC, digB, Bool.and_eq_true, decide_eq_true_eq] at h
  omega
theorem number_loop (L : Str) (td : Bool) (hl : L.length ≤ 10) : ∀ (suf pre : Str) (n : Int) (s : St) (i : Nat), pre ++ suf = L → i = pre.length → suf.all digC = true → 0 ≤ n → n < 10 ^ pre.length →
    lex_number_l0 (.val (.str L)) (.val (.bool td)) (.val (.int .i64 n)) (.val (.int .i64 L.length)) (.val (.int .i64 (i : Int))) s =
      some (.ret (.val (.tup [.int .i64 (numV n suf), .bool (decide (numV n suf < 1073741824) || decide (numV n suf = 1073741824) && td)])), s) := by
  intro suf
  induction suf with
  | nil =>
    intro pre n s i h hi hd h0 h1
    rw [List.append_nil] at h
    subst h hi
    rw [lex_number_l0_eq, show numV n [] = n from rfl]
    simp only [go_sem, Nat.reduceAdd, Nat.reduceLeDiff, Nat.reduceSub, Nat.reduceMul, Nat.reduceEqDiff, Int.reduceEq, Int.reduceLT, Int.reduceLE, Int.reduceAdd, Int.reduceSub, Int.reduceNeg, Int.reduceGT, Int.reduceGE, Int.reduceNe, ne_eq, not_false_eq_true, Int.lt_irrefl]
  | cons c suf ih =>
    intro pre n s i h hi hd h0 h1
    subst hi
    have hc : L[pre.length]? = some c := by rw [← h]; simp
    have hlt : pre.length < L.length := by rw [← h]; simp
    simp only [List.all_cons, Bool.and_eq_true] at hd
    obtain ⟨b1, b2⟩ := dig_bounds hd.1
    have hp : (10 : Int) ^ pre.length ≤ 10 ^ 9 := by exact_mod_cast (Nat.pow_le_pow_right (n := 10) (by decide) (show pre.length ≤ 9 by omega))
    have hp2 : (10 : Int) ^ (pre.length + 1) = 10 * 10 ^ pre.length := by rw [Int.pow_succ, Int.mul_comm]
    have hb : decide ((pre.length : Int) < (L.length : Int)) = true := by simpa using hlt
    have := ih (pre ++ [c]) (10 * n + ((c.toNat : Int) - 48)) s (pre.length + 1) (by simp [h]) (by simp) hd.2 (by omega) (by rw [List.length_append, List.length_singleton, hp2]; omega)
    rw [lex_number_l0_eq]
    simp only [go_sem, Nat.reduceAdd, Nat.reduceLeDiff, Nat.reduceSub, Nat.reduceMul, Nat.reduceEqDiff, Int.reduceEq, Int.reduceLT, Int.reduceLE, Int.reduceAdd, Int.reduceSub, Int.reduceNeg, Int.reduceGT, Int.reduceGE, Int.reduceNe, ne_eq, not_false_eq_true, hb, indexS_str T_string_k hc]
    rw [wrapU8 (by omega) (by omega), convS_u8]
    simp only [go_sem, Nat.reduceAdd, Nat.reduceLeDiff, Nat.reduceSub, Nat.reduceMul, Nat.reduceEqDiff, Int.reduceEq, Int.reduceLT, Int.reduceLE, Int.reduceAdd, Int.reduceSub, Int.reduceNeg, Int.reduceGT, Int.reduceGE, Int.reduceNe, ne_eq, not_false_eq_true]
    rw [wrap64 (n := 10 * n) (by omega) (by omega), wrap64 (n := (c.toNat : Int) - 48) (by omega) (by omega), wrap64 (n := 10 * n + _) (by omega) (by omega), wrap64 (n := (pre.length : Int) + 1) (by omega) (by omega)]
    have e : (pre.length : Int) + 1 = ((pre.length + 1 : Nat) : Int) := by omega
    rw [e, this]
    rfl
theorem lex_number_spec (t : Str) (td : Bool) (h0 : t ≠ []) (hd : t.all digC = true) (hl : t.length < 2^62) (s : St) :
    cw (.f F_lex_number) [.str t, .bool td] s = some (.ret (.val (.tup [.int .i64 (numA t td).1, .bool (numA t td).2])), s) := by
  rw [lex_number_eq]
  have hz : decide (((t.headD 0).toNat : Int) = 48) = decide (t.headD 0 = 48) := by
    rw [decide_eq_decide]
    constructor
    · intro h; exact UInt8.toNat_inj.1 (by show _ = 48; omega)
    · intro h; rw [h]; rfl
  cases h1 : decide ((t.length : Int) > 1) && decide (t.headD 0 = 48) || decide ((t.length : Int) > 10)
  · have hn : numA t td = (numV 0 t, decide (numV 0 t < 1073741824) || decide (numV 0 t = 1073741824) && td) := by unfold numA; rw [h1]; rfl
    have hlen : t.length ≤ 10 := by
      simp only [Bool.or_eq_false_iff, decide_eq_false_iff_not] at h1; omega
    have := number_loop t td hlen t [] 0 s 0 rfl rfl hd (by decide) (by simp)
    rw [hn]
    simp only [Int.ofNat_zero] at this
    rw [← this]
    simp only [Bool.or_eq_false_iff] at h1
    obtain ⟨h2, h3⟩ := h1
    cases h4 : decide ((t.length : Int) > 1)
    · simp only [go_sem, Nat.reduceAdd, Nat.reduceLeDiff, Nat.reduceSub, Nat.reduceMul, Nat.reduceEqDiff, Int.reduceEq, Int.reduceLT, Int.reduceLE, Int.reduceAdd, Int.reduceSub, Int.reduceNeg, Int.reduceGT, Int.reduceGE, Int.reduceNe, ne_eq, not_false_eq_true, h4, h3]
    · simp only [h4, Bool.true_and] at h2
      simp only [go_sem, Nat.reduceAdd, Nat.reduceLeDiff, Nat.reduceSub, Nat.reduceMul, Nat.reduceEqDiff, Int.reduceEq, Int.reduceLT, Int.reduceLE, Int.reduceAdd, Int.reduceSub, Int.reduceNeg, Int.reduceGT, Int.reduceGE, Int.reduceNe, ne_eq, not_false_eq_true, h4, indexS_zero T_string_k h0, hz, h2, h3]
  · have hn : numA t td = (0, false) := by unfold numA; rw [h1]; rfl
    rw [hn]
    cases h4 : decide ((t.length : Int) > 1)
    · simp only [h4, Bool.false_and, Bool.false_or] at h1
      simp only [go_sem, Nat.reduceAdd, Nat.reduceLeDiff, Nat.reduceSub, Nat.reduceMul, Nat.reduceEqDiff, Int.reduceEq, Int.reduceLT, Int.reduceLE, Int.reduceAdd, Int.reduceSub, Int.reduceNeg, Int.reduceGT, Int.reduceGE, Int.reduceNe, ne_eq, not_false_eq_true, h4, h1]
    · simp only [h4, Bool.true_and] at h1
      cases h2 : decide (t.headD 0 = 48)
      · simp only [h2, Bool.false_or] at h1
        simp only [go_sem, Nat.reduceAdd, Nat.reduceLeDiff, Nat.reduceSub, Nat.reduceMul, Nat.reduceEqDiff, Int.reduceEq, Int.reduceLT, Int.reduceLE, Int.reduceAdd, Int.reduceSub, Int.reduceNeg, Int.reduceGT, Int.reduceGE, Int.reduceNe, ne_eq, not_false_eq_true, h4, indexS_zero T_string_k h0, hz, h2, h1]
      · simp only [go_sem, Nat.reduceAdd, Nat.reduceLeDiff, Nat.reduceSub, Nat.reduceMul, Nat.reduceEqDiff, Int.reduceEq, Int.reduceLT, Int.reduceLE, Int.reduceAdd, Int.reduceSub, Int.reduceNeg, Int.reduceGT, Int.reduceGE, Int.reduceNe, ne_eq, not_false_eq_true, h4, indexS_zero T_string_k h0, hz, h2]
theorem lex_named_spec (t : Str) (h0 : t ≠ []) (s : St) : cw (.f F_lex_named) [.str t] s = some (.ret (.val (.int .i64 (namedA t))), s) := by
  rw [lex_named_eq, words_slice]
  simp only [go_sem, Nat.reduceAdd, Nat.reduceLeDiff, Nat.reduceSub, Nat.reduceMul, Nat.reduceEqDiff, Int.reduceEq, Int.reduceLT, Int.reduceLE, Int.reduceAdd, Int.reduceSub, Int.reduceNeg, Int.reduceGT, Int.reduceGE, Int.reduceNe, ne_eq, not_false_eq_true, contains_spec t lwords (by decide)]
  unfold namedA
  cases hasL lwords t
  · simp only [go_sem, Nat.reduceAdd, Nat.reduceLeDiff, Nat.reduceSub, Nat.reduceMul, Nat.reduceEqDiff, Int.reduceEq, Int.reduceLT, Int.reduceLE, Int.reduceAdd, Int.reduceSub, Int.reduceNeg, Int.reduceGT, Int.reduceGE, Int.reduceNe, ne_eq, not_false_eq_true]
    cases h1 : decide (t = [116, 114, 117, 101])
    · simp only [go_sem, Nat.reduceAdd, Nat.reduceLeDiff, Nat.reduceSub, Nat.reduceMul, Nat.reduceEqDiff, Int.reduceEq, Int.reduceLT, Int.reduceLE, Int.reduceAdd, Int.reduceSub, Int.reduceNeg, Int.reduceGT, Int.reduceGE, Int.reduceNe, ne_eq, not_false_eq_true]
      cases h2 : decide (t = [102, 97, 108, 115, 101])
      · simp only [go_sem, Nat.reduceAdd, Nat.reduceLeDiff, Nat.reduceSub, Nat.reduceMul, Nat.reduceEqDiff, Int.reduceEq, Int.reduceLT, Int.reduceLE, Int.reduceAdd, Int.reduceSub, Int.reduceNeg, Int.reduceGT, Int.reduceGE, Int.reduceNe, ne_eq, not_false_eq_true, indexS_zero T_string_k h0]
      · simp only [go_sem, Nat.reduceAdd, Nat.reduceLeDiff, Nat.reduceSub, Nat.reduceMul, Nat.reduceEqDiff, Int.reduceEq, Int.reduceLT, Int.reduceLE, Int.reduceAdd, Int.reduceSub, Int.reduceNeg, Int.reduceGT, Int.reduceGE, Int.reduceNe, ne_eq, not_false_eq_true]
    · simp only [go_sem, Nat.reduceAdd, Nat.reduceLeDiff, Nat.reduceSub, Nat.reduceMul, Nat.reduceEqDiff, Int.reduceEq, Int.reduceLT, Int.reduceLE, Int.reduceAdd, Int.reduceSub, Int.reduceNeg, Int.reduceGT, Int.reduceGE, Int.reduceNe, ne_eq, not_false_eq_true]
  · simp only [go_sem, Nat.reduceAdd, Nat.reduceLeDiff, Nat.reduceSub, Nat.reduceMul, Nat.reduceEqDiff, Int.reduceEq, Int.reduceLT, Int.reduceLE, Int.reduceAdd, Int.reduceSub, Int.reduceNeg, Int.reduceGT, Int.reduceGE, Int.reduceNe, ne_eq, not_false_eq_true]
theorem hasL_signs (s : Str) (n : Nat) (h : n ≤ s.length) (st : St) : cw (.f F_slices_Contains_Sstring_string) [.sl (lsigns.map .str), .str (s.take n)] st = some (.ret (.val (.bool (hasL lsigns (s.take n)))), st) := contains_spec _ _ (by decide) _
theorem sign_loop (t : Str) (s : St) : ∀ n : Nat, n ≤ t.length → n ≤ 2 → lex_sign_l0 (.val (.str t)) (.val (.int .i64 (n : Int))) s =
    some (.ret (.val (.str (bif decide (2 ≤ n) && hasL lsigns (t.take 2) then t.take 2 else bif decide (1 ≤ n) && hasL lsigns (t.take 1) then t.take 1 else []))), s)
  | 0, _, _ => by rw [lex_sign_l0_eq]; simp only [go_sem, Nat.reduceAdd, Nat.reduceLeDiff, Nat.reduceSub, Nat.reduceMul, Nat.reduceEqDiff, Int.reduceEq, Int.reduceLT, Int.reduceLE, Int.reduceAdd, Int.reduceSub, Int.reduceNeg, Int.reduceGT, Int.reduceGE, Int.reduceNe, ne_eq, not_false_eq_true]; try rfl
  | n + 1, h, h2 => by
    rw [lex_sign_l0_eq, signs_slice]
    have hb : decide (((n + 1 : Nat) : Int) > 0) = true := by simp
    simp only [go_sem, Nat.reduceAdd, Nat.reduceLeDiff, Nat.reduceSub, Nat.reduceMul, Nat.reduceEqDiff, Int.reduceEq, Int.reduceLT, Int.reduceLE, Int.reduceAdd, Int.reduceSub, Int.reduceNeg, Int.reduceGT, Int.reduceGE, Int.reduceNe, ne_eq, not_false_eq_true, hb, sliceS_to T_string_k h, hasL_signs t (n + 1) h]
    have e : ((n + 1 : Nat) : Int) - 1 = (n : Int) := by omega
    rw [e, wrap64 (by omega) (by omega), sign_loop t s n (by omega) (by omega)]
    rcases Nat.lt_or_ge n 1 with hn | hn
    · obtain rfl : n = 0 := by omega
      simp only [go_sem, Nat.reduceAdd, Nat.reduceLeDiff, Nat.reduceSub, Nat.reduceMul, Nat.reduceEqDiff, Int.reduceEq, Int.reduceLT, Int.reduceLE, Int.reduceAdd, Int.reduceSub, Int.reduceNeg, Int.reduceGT, Int.reduceGE, Int.reduceNe, ne_eq, not_false_eq_true]
      try (cases hasL lsigns (t.take 1) <;> rfl)
    · obtain rfl : n = 1 := by omega
      simp only [go_sem, Nat.reduceAdd, Nat.reduceLeDiff, Nat.reduceSub, Nat.reduceMul, Nat.reduceEqDiff, Int.reduceEq, Int.reduceLT, Int.reduceLE, Int.reduceAdd, Int.reduceSub, Int.reduceNeg, Int.reduceGT, Int.reduceGE, Int.reduceNe, ne_eq, not_false_eq_true]
      try (cases hasL lsigns (t.take 2) <;> rfl)
theorem lex_sign_spec (t : Str) (hl : t.length < 2^62) (s : St) : cw (.f F_lex_sign) [.str t] s = some (.ret (.val (.str (signA t))), s) := by
  rw [lex_sign_eq]
  have hm : min2 (.val (.int .i64 2)) (.val (.int .i64 (t.length : Int))) = some (.val (.int .i64 ((min 2 t.length : Nat) : Int))) := by
    simp only [min2]
    congr 4
    split <;> omega
  simp only [go_sem, Nat.reduceAdd, Nat.reduceLeDiff, Nat.reduceSub, Nat.reduceMul, Nat.reduceEqDiff, Int.reduceEq, Int.reduceLT, Int.reduceLE, Int.reduceAdd, Int.reduceSub, Int.reduceNeg, Int.reduceGT, Int.reduceGE, Int.reduceNe, ne_eq, not_false_eq_true, hm]
  rw [sign_loop t s (min 2 t.length) (by omega) (by omega)]
  unfold signA
  have h1 : decide (2 ≤ min 2 t.length) = decide (2 ≤ t.length) := by rw [decide_eq_decide]; omega
  have h2 : decide (1 ≤ min 2 t.length) = decide (1 ≤ t.length) := by rw [decide_eq_decide]; omega
  rw [h1, h2]
end Go.Proofs.YtadhckhgemongaaDoor

namespace Go.Proofs.YtadhckhgemongaaDoor
open Go Go.Am
set_option linter.unusedVariables false
set_option maxRecDepth 4000
section
variable (t : Str) (hl : t.length < 2^60) (s : St)
include hl
theorem upto_dig : cw (.f F_lex_one_1) [.int .i64 0, .fn F_lex_digit [], .cp [.str t]] s = some (.ret (.val (.str (t.takeWhile digC))), s) :=
  upto_spec F_lex_digit digB lex_digit_spec [] t 0 rfl (by simpa using (by omega : t.length < 2^62)) s
theorem upto_amo : cw (.f F_lex_one_1) [.int .i64 0, .fn F_lex_among [], .cp [.str t]] s = some (.ret (.val (.str (t.takeWhile amoC))), s) :=
  upto_spec F_lex_among amoB lex_among_spec [] t 0 rfl (by simpa using (by omega : t.length < 2^62)) s
theorem upto_amo1 (h0 : t ≠ []) : cw (.f F_lex_one_1) [.int .i64 1, .fn F_lex_among [], .cp [.str t]] s = some (.ret (.val (.str (t.take 1 ++ (t.drop 1).takeWhile amoC))), s) := by
  have h1 : (t.take 1).length = 1 := by cases t with | nil => exact absurd rfl h0 | cons a r => rfl
  have := upto_spec F_lex_among amoB lex_among_spec (t.take 1) (t.drop 1) 1 h1.symm (by rw [List.take_append_drop]; omega) s
  rw [List.take_append_drop] at this
  exact this
end
theorem toNat_eq (c : UInt8) (n : Nat) (h : n < 256) : decide ((c.toNat : Int) = (n : Int)) = decide (c = UInt8.ofNat n) := by
  rw [decide_eq_decide]
  constructor
  · intro h'
    apply UInt8.toNat_inj.1
    simp only [UInt8.toNat_ofNat']
    omega
  · intro h'
    rw [h']
    simp only [UInt8.toNat_ofNat']
    omega
theorem lex_one_rest (t : Str) (td : Bool) (hl : t.length < 2^60) (s : St) (z : List Slot) (hz : z.length = 4) :
    lex_one_j0 (.val (.cp [.str t])) z s = some (.ret (.val (.tup [(restA t).2.enc, .int .i64 (restA t).1])), s) := by
  rw [lex_one_j0_eq]
  have hs := lex_sign_spec t (by omega) s
  obtain ⟨a, b, c, d, rfl⟩ : ∃ a b c d, z = [a, b, c, d] := by
    match z, hz with
    | [a, b, c, d], _ => exact ⟨a, b, c, d, rfl⟩
  simp only [go_sem, Nat.reduceAdd, Nat.reduceLeDiff, Nat.reduceSub, Nat.reduceMul, Nat.reduceEqDiff, Int.reduceEq, Int.reduceLT, Int.reduceLE, Int.reduceAdd, Int.reduceSub, Int.reduceNeg, Int.reduceGT, Int.reduceGE, Int.reduceNe, ne_eq, not_false_eq_true, hs]
  unfold restA
  cases decide (signA t = [])
  · simp only [go_sem, Nat.reduceAdd, Nat.reduceLeDiff, Nat.reduceSub, Nat.reduceMul, Nat.reduceEqDiff, Int.reduceEq, Int.reduceLT, Int.reduceLE, Int.reduceAdd, Int.reduceSub, Int.reduceNeg, Int.reduceGT, Int.reduceGE, Int.reduceNe, ne_eq, not_false_eq_true]; rfl
  · simp only [go_sem, Nat.reduceAdd, Nat.reduceLeDiff, Nat.reduceSub, Nat.reduceMul, Nat.reduceEqDiff, Int.reduceEq, Int.reduceLT, Int.reduceLE, Int.reduceAdd, Int.reduceSub, Int.reduceNeg, Int.reduceGT, Int.reduceGE, Int.reduceNe, ne_eq, not_false_eq_true]; rfl
theorem get1 {t : Str} (h : 1 < t.length) : t[1]? = some ((t.drop 1).headD 0) := by
  match t, h with
  | a :: b :: r, _ => rfl
theorem lex_one_spec (t : Str) (td : Bool) (h0 : t ≠ []) (hl : t.length < 2^60) (s : St) :
    cw (.f F_lex_one) [.str t, .bool td] s = some (.ret (.val (.tup [(oneA t td).2.enc, .int .i64 (oneA t td).1])), s) := by
  rw [lex_one_eq]
  have hr := lex_one_rest t td hl s [.val (.int .i64 0), .val (.int .i64 0), .val (.str []), .val (.int .i64 0)] rfl
  have hn : digC (t.headD 0) = true → t.takeWhile digC ≠ [] ∧ (t.takeWhile digC).all digC = true := fun h => by
    cases t with
    | nil => exact absurd rfl h0
    | cons c r =>
      have h : digC c = true := h
      refine ⟨by simp [List.takeWhile_cons, h], ?_⟩
      exact List.all_takeWhile
  have hld : (t.takeWhile digC).length ≤ t.length := takeWhile_length_le _ _
  have hla : (t.takeWhile amoC).length ≤ t.length := takeWhile_length_le _ _
  unfold oneA
  simp only [go_sem, Nat.reduceAdd, Nat.reduceLeDiff, Nat.reduceSub, Nat.reduceMul, Nat.reduceEqDiff, Int.reduceEq, Int.reduceLT, Int.reduceLE, Int.reduceAdd, Int.reduceSub, Int.reduceNeg, Int.reduceGT, Int.reduceGE, Int.reduceNe, ne_eq, not_false_eq_true, indexS_zero T_string_k h0, lex_digit_spec, lex_first_spec, upto_dig t hl, upto_amo t hl]
  rw [show digB ((t.headD 0).toNat : Int) = digC (t.headD 0) from rfl, show firB ((t.headD 0).toNat : Int) = firC (t.headD 0) from rfl]
  cases hd : digC (t.headD 0)
  · simp only [go_sem, Nat.reduceAdd, Nat.reduceLeDiff, Nat.reduceSub, Nat.reduceMul, Nat.reduceEqDiff, Int.reduceEq, Int.reduceLT, Int.reduceLE, Int.reduceAdd, Int.reduceSub, Int.reduceNeg, Int.reduceGT, Int.reduceGE, Int.reduceNe, ne_eq, not_false_eq_true]
    cases hf : firC (t.headD 0)
    · simp only [go_sem, Nat.reduceAdd, Nat.reduceLeDiff, Nat.reduceSub, Nat.reduceMul, Nat.reduceEqDiff, Int.reduceEq, Int.reduceLT, Int.reduceLE, Int.reduceAdd, Int.reduceSub, Int.reduceNeg, Int.reduceGT, Int.reduceGE, Int.reduceNe, ne_eq, not_false_eq_true]
      rw [show decide (((t.headD 0).toNat : Int) = 39) = decide (t.headD 0 = 39) from toNat_eq _ 39 (by decide)]
      cases h3 : decide (t.headD 0 = 39)
      · simp only [go_sem, Nat.reduceAdd, Nat.reduceLeDiff, Nat.reduceSub, Nat.reduceMul, Nat.reduceEqDiff, Int.reduceEq, Int.reduceLT, Int.reduceLE, Int.reduceAdd, Int.reduceSub, Int.reduceNeg, Int.reduceGT, Int.reduceGE, Int.reduceNe, ne_eq, not_false_eq_true, hr]
      · simp only [go_sem, Nat.reduceAdd, Nat.reduceLeDiff, Nat.reduceSub, Nat.reduceMul, Nat.reduceEqDiff, Int.reduceEq, Int.reduceLT, Int.reduceLE, Int.reduceAdd, Int.reduceSub, Int.reduceNeg, Int.reduceGT, Int.reduceGE, Int.reduceNe, ne_eq, not_false_eq_true]
        have e1 : decide ((t.length : Int) > 1) = decide (1 < t.length) := by rw [decide_eq_decide]; omega
        rw [e1]
        cases h4 : decide (1 < t.length)
        · simp only [go_sem, Nat.reduceAdd, Nat.reduceLeDiff, Nat.reduceSub, Nat.reduceMul, Nat.reduceEqDiff, Int.reduceEq, Int.reduceLT, Int.reduceLE, Int.reduceAdd, Int.reduceSub, Int.reduceNeg, Int.reduceGT, Int.reduceGE, Int.reduceNe, ne_eq, not_false_eq_true, hr]
        · have h5 := get1 (of_decide_eq_true h4)
          have h6 := indexS_str (t := C.ti T_string) (et := C.ti T_0) (n := 1) T_string_k h5
          simp only [Int.cast_ofNat_Int] at h6
          have h8 : (t.take 1 ++ (t.drop 1).takeWhile amoC).length ≤ t.length := by
            have := takeWhile_length_le amoC (t.drop 1)
            simp only [List.length_append, List.length_take, List.length_drop] at *
            have := of_decide_eq_true h4
            omega
          have hu := upto_amo1 t hl s h0
          generalize t.take 1 ++ (t.drop 1).takeWhile amoC = u at h8 hu ⊢
          simp only [go_sem, Nat.reduceAdd, Nat.reduceLeDiff, Nat.reduceSub, Nat.reduceMul, Nat.reduceEqDiff, Int.reduceEq, Int.reduceLT, Int.reduceLE, Int.reduceAdd, Int.reduceSub, Int.reduceNeg, Int.reduceGT, Int.reduceGE, Int.reduceNe, ne_eq, not_false_eq_true, h6, lex_first_spec, hu]
          rw [show firB (((t.drop 1).headD 0).toNat : Int) = firC ((t.drop 1).headD 0) from rfl]
          cases h7 : firC ((t.drop 1).headD 0)
          · simp only [go_sem, Nat.reduceAdd, Nat.reduceLeDiff, Nat.reduceSub, Nat.reduceMul, Nat.reduceEqDiff, Int.reduceEq, Int.reduceLT, Int.reduceLE, Int.reduceAdd, Int.reduceSub, Int.reduceNeg, Int.reduceGT, Int.reduceGE, Int.reduceNe, ne_eq, not_false_eq_true, hr]
          · simp only [go_sem, Nat.reduceAdd, Nat.reduceLeDiff, Nat.reduceSub, Nat.reduceMul, Nat.reduceEqDiff, Int.reduceEq, Int.reduceLT, Int.reduceLE, Int.reduceAdd, Int.reduceSub, Int.reduceNeg, Int.reduceGT, Int.reduceGE, Int.reduceNe, ne_eq, not_false_eq_true]
            rw [wrap64 (by omega) (by omega)]
            unfold tyvA
            cases decide ((u.length : Int) - 1 > 32)
            · simp only [go_sem, Nat.reduceAdd, Nat.reduceLeDiff, Nat.reduceSub, Nat.reduceMul, Nat.reduceEqDiff, Int.reduceEq, Int.reduceLT, Int.reduceLE, Int.reduceAdd, Int.reduceSub, Int.reduceNeg, Int.reduceGT, Int.reduceGE, Int.reduceNe, ne_eq, not_false_eq_true]; rfl
            · simp only [go_sem, Nat.reduceAdd, Nat.reduceLeDiff, Nat.reduceSub, Nat.reduceMul, Nat.reduceEqDiff, Int.reduceEq, Int.reduceLT, Int.reduceLE, Int.reduceAdd, Int.reduceSub, Int.reduceNeg, Int.reduceGT, Int.reduceGE, Int.reduceNe, ne_eq, not_false_eq_true]; rfl
    · simp only [go_sem, Nat.reduceAdd, Nat.reduceLeDiff, Nat.reduceSub, Nat.reduceMul, Nat.reduceEqDiff, Int.reduceEq, Int.reduceLT, Int.reduceLE, Int.reduceAdd, Int.reduceSub, Int.reduceNeg, Int.reduceGT, Int.reduceGE, Int.reduceNe, ne_eq, not_false_eq_true]
      have h9 : t.takeWhile amoC ≠ [] := by
        cases t with
        | nil => exact absurd rfl h0
        | cons c r =>
          have hf : firC c = true := hf
          have : amoC c = true := by unfold amoC amoB; unfold firC at hf; rw [hf]; rfl
          simp [List.takeWhile_cons, this]
      cases h3 : decide (t.takeWhile amoC = [95])
      · simp only [go_sem, Nat.reduceAdd, Nat.reduceLeDiff, Nat.reduceSub, Nat.reduceMul, Nat.reduceEqDiff, Int.reduceEq, Int.reduceLT, Int.reduceLE, Int.reduceAdd, Int.reduceSub, Int.reduceNeg, Int.reduceGT, Int.reduceGE, Int.reduceNe, ne_eq, not_false_eq_true]
        cases h4 : decide (((t.takeWhile amoC).length : Int) > 32)
        · simp only [go_sem, Nat.reduceAdd, Nat.reduceLeDiff, Nat.reduceSub, Nat.reduceMul, Nat.reduceEqDiff, Int.reduceEq, Int.reduceLT, Int.reduceLE, Int.reduceAdd, Int.reduceSub, Int.reduceNeg, Int.reduceGT, Int.reduceGE, Int.reduceNe, ne_eq, not_false_eq_true, lex_named_spec _ h9]; rfl
        · simp only [go_sem, Nat.reduceAdd, Nat.reduceLeDiff, Nat.reduceSub, Nat.reduceMul, Nat.reduceEqDiff, Int.reduceEq, Int.reduceLT, Int.reduceLE, Int.reduceAdd, Int.reduceSub, Int.reduceNeg, Int.reduceGT, Int.reduceGE, Int.reduceNe, ne_eq, not_false_eq_true]; rfl
      · simp only [go_sem, Nat.reduceAdd, Nat.reduceLeDiff, Nat.reduceSub, Nat.reduceMul, Nat.reduceEqDiff, Int.reduceEq, Int.reduceLT, Int.reduceLE, Int.reduceAdd, Int.reduceSub, Int.reduceNeg, Int.reduceGT, Int.reduceGE, Int.reduceNe, ne_eq, not_false_eq_true, hr]
  · obtain ⟨h1, h2⟩ := hn hd
    simp only [go_sem, Nat.reduceAdd, Nat.reduceLeDiff, Nat.reduceSub, Nat.reduceMul, Nat.reduceEqDiff, Int.reduceEq, Int.reduceLT, Int.reduceLE, Int.reduceAdd, Int.reduceSub, Int.reduceNeg, Int.reduceGT, Int.reduceGE, Int.reduceNe, ne_eq, not_false_eq_true, lex_number_spec _ td h1 h2 (by omega)]
    cases (numA (t.takeWhile digC) td).2
    · simp only [go_sem, Nat.reduceAdd, Nat.reduceLeDiff, Nat.reduceSub, Nat.reduceMul, Nat.reduceEqDiff, Int.reduceEq, Int.reduceLT, Int.reduceLE, Int.reduceAdd, Int.reduceSub, Int.reduceNeg, Int.reduceGT, Int.reduceGE, Int.reduceNe, ne_eq, not_false_eq_true]; rfl
    · simp only [go_sem, Nat.reduceAdd, Nat.reduceLeDiff, Nat.reduceSub, Nat.reduceMul, Nat.reduceEqDiff, Int.reduceEq, Int.reduceLT, Int.reduceLE, Int.reduceAdd, Int.reduceSub, Int.reduceNeg, Int.reduceGT, Int.reduceGE, Int.reduceNe, ne_eq, not_false_eq_true]; rfl
end Go.Proofs.YtadhckhgemongaaDoor

namespace Go.Proofs.YtadhckhgemongaaDoor
open Go Go.Am
set_option linter.unusedVariables false
set_option maxRecDepth 4000
theorem LTok.cells_mk (k p : Int) (t : Str) (n : Int) : (LTok.mk k p t n).cells = [.int .i64 k, .int .i64 p, .str t, .int .i64 n] := rfl
theorem tokAcc {s0 s : St} {x : Slot} {A : List LTok} {b : LTok} (a : AccR T_Tok s0 s x (A.map LTok.enc)) (b1 : A.length < 2^29) :
    ∃ x' s', appendS T_Tok (C.ti T_Tok) s x (.full [b.enc]) = some (x', s') ∧ AccR T_Tok s0 s' x' ((A ++ [b]).map LTok.enc) :=
  AccR.appendF (B := [b]) a rfl (fun a => by rw [T_Tok_size]; exact LTok.cells_len a) (by rw [T_Tok_size]; decide) (by simp; omega) (by rw [T_Tok_bytes]; decide)
theorem scan_end (acc : List LTok) (x : Slot) (s0 s : St) (a : AccR T_Tok s0 s x (acc.map LTok.enc)) (k p : Int) :
    ∃ nl s', lex_Scan_j0 [.val (.int .i64 0), .val (.int .i64 0), .val (.str [])] x [.val (.int .i64 k), .val (.int .i64 p), .val (.str [])] s = some (.ret (.val (.tup [encS nl ((bif decide (k = 0) then acc else []).map LTok.enc), badEnc k p])), s') ∧ Grew s0 s' := by
  rw [lex_Scan_j0_eq]
  obtain ⟨nl, hx⟩ := a.av
  simp only [go_sem, Nat.reduceAdd, Nat.reduceLeDiff, Nat.reduceSub, Nat.reduceMul, Nat.reduceEqDiff, Int.reduceEq, Int.reduceLT, Int.reduceLE, Int.reduceAdd, Int.reduceSub, Int.reduceNeg, Int.reduceGT, Int.reduceGE, Int.reduceNe, ne_eq, not_false_eq_true]
  cases decide (k = 0)
  · simp only [go_sem, Nat.reduceAdd, Nat.reduceLeDiff, Nat.reduceSub, Nat.reduceMul, Nat.reduceEqDiff, Int.reduceEq, Int.reduceLT, Int.reduceLE, Int.reduceAdd, Int.reduceSub, Int.reduceNeg, Int.reduceGT, Int.reduceGE, Int.reduceNe, ne_eq, not_false_eq_true]
    exact ⟨true, s, rfl, a.grew⟩
  · simp only [go_sem, Nat.reduceAdd, Nat.reduceLeDiff, Nat.reduceSub, Nat.reduceMul, Nat.reduceEqDiff, Int.reduceEq, Int.reduceLT, Int.reduceLE, Int.reduceAdd, Int.reduceSub, Int.reduceNeg, Int.reduceGT, Int.reduceGE, Int.reduceNe, ne_eq, not_false_eq_true, avsO_cons hx]
    exact ⟨nl, s, rfl, a.grew⟩
theorem last_facts {acc : List LTok} {x : Slot} (h : x.list? = some (acc.map LTok.enc)) (h0 : 0 < acc.length) : ixS 4 x (.val (.int .i64 ((acc.length : Int) - 1))) = some (.val (.cp (acc.getLastD .zero).cells)) := by
  have hne : acc ≠ [] := List.length_pos_iff.1 h0
  have e : (acc.length : Int) - 1 = ((acc.length - 1 : Nat) : Int) := by omega
  rw [e]
  have hg : acc[acc.length - 1]? = some (acc.getLastD .zero) := by
    rw [← List.getLast?_eq_getElem?, List.getLast?_eq_some_getLast hne, List.getLastD_eq_getLast?, List.getLast?_eq_some_getLast hne]
    rfl
  exact ixS_get (v := LTok.enc (acc.getLastD .zero)) h (by rw [List.getElem?_map, hg]; rfl) (LTok.cells_len _) (by decide)
theorem scan_loop (L : Str) (hl : L.length ≤ 65536) (s0 : St) : ∀ (fuel : Nat) (suf pre : Str) (acc : List LTok) (x : Slot) (s : St) (i : Nat), suf.length < fuel → pre ++ suf = L → i = pre.length → AccR T_Tok s0 s x (acc.map LTok.enc) → acc.length ≤ pre.length →
    ∃ nl s', lex_Scan_l0 (.val (.str L)) [.val (.int .i64 0), .val (.int .i64 0), .val (.str [])] x [.val (.int .i64 0), .val (.int .i64 0), .val (.str [])] (.val (.int .i64 (i : Int))) s =
      some (.ret (.val (.tup [encS nl ((scanF fuel i suf acc).1.map LTok.enc), badEnc (scanF fuel i suf acc).2.1 (scanF fuel i suf acc).2.2])), s') ∧ Grew s0 s' := by
  intro fuel
  induction fuel with
  | zero => intro suf pre acc x s i h; omega
  | succ n ih =>
    intro suf pre acc x s i hf h hi a hacc
    subst hi
    have hL : pre.length + suf.length = L.length := by rw [← h]; simp
    rw [lex_Scan_l0_eq]
    match suf, hf, h, hL with
    | [], _, h, hL =>
      have hb : decide ((pre.length : Int) < (L.length : Int)) = false := by simp; simp at hL; omega
      simp only [go_sem, Nat.reduceAdd, Nat.reduceLeDiff, Nat.reduceSub, Nat.reduceMul, Nat.reduceEqDiff, Int.reduceEq, Int.reduceLT, Int.reduceLE, Int.reduceAdd, Int.reduceSub, Int.reduceNeg, Int.reduceGT, Int.reduceGE, Int.reduceNe, ne_eq, not_false_eq_true, hb]
      exact scan_end acc x s0 s a 0 0
    | c :: r, hf, h, hL =>
      simp only [List.length_cons] at hL hf
      have hc : L[pre.length]? = some c := by rw [← h]; simp
      have hb : decide ((pre.length : Int) < (L.length : Int)) = true := by simp; omega
      have hfrom := sliceS_from (t := C.ti T_string) T_string_k (l := L) (i := pre.length) (by omega)
      have hdrop : L.drop pre.length = c :: r := by rw [← h]; simp
      rw [hdrop] at hfrom
      have hpre := hasPrefix_spec (c :: r) [40, 42] s
      have hop : (decide (([40, 42] : Str).length ≤ (c :: r).length) && decide ((c :: r).take ([40, 42] : Str).length = [40, 42])) = lxOpens (c :: r) := by
        cases r with
        | nil => rfl
        | cons b r => simp [lxOpens, Bool.decide_and]
      rw [hop] at hpre
      have hrem := lex_remark_spec pre (c :: r) (by rw [h]; omega) s
      rw [h] at hrem
      simp only [go_sem, Nat.reduceAdd, Nat.reduceLeDiff, Nat.reduceSub, Nat.reduceMul, Nat.reduceEqDiff, Int.reduceEq, Int.reduceLT, Int.reduceLE, Int.reduceAdd, Int.reduceSub, Int.reduceNeg, Int.reduceGT, Int.reduceGE, Int.reduceNe, ne_eq, not_false_eq_true, hb, indexS_str T_string_k hc, indexByte_spec, blank_eq, hfrom, hpre, hrem, a.list?]
      unfold scanF
      cases hbl : blankC c
      · simp only [go_sem, Nat.reduceAdd, Nat.reduceLeDiff, Nat.reduceSub, Nat.reduceMul, Nat.reduceEqDiff, Int.reduceEq, Int.reduceLT, Int.reduceLE, Int.reduceAdd, Int.reduceSub, Int.reduceNeg, Int.reduceGT, Int.reduceGE, Int.reduceNe, ne_eq, not_false_eq_true]
        cases hop2 : lxOpens (c :: r)
        · simp only [go_sem, Nat.reduceAdd, Nat.reduceLeDiff, Nat.reduceSub, Nat.reduceMul, Nat.reduceEqDiff, Int.reduceEq, Int.reduceLT, Int.reduceLE, Int.reduceAdd, Int.reduceSub, Int.reduceNeg, Int.reduceGT, Int.reduceGE, Int.reduceNe, ne_eq, not_false_eq_true]
          cases hge : decide (acc.length ≥ 16384)
          · have hge' : decide ((acc.length : Int) ≥ 16384) = false := by simp at hge ⊢; omega
            have hone := lex_one_spec (c :: r) (tildeL acc) (by simp) (by simp; omega) s
            have hp := oneA_pre (c :: r) (tildeL acc) (by simp)
            simp only [go_sem, Nat.reduceAdd, Nat.reduceLeDiff, Nat.reduceSub, Nat.reduceMul, Nat.reduceEqDiff, Int.reduceEq, Int.reduceLT, Int.reduceLE, Int.reduceAdd, Int.reduceSub, Int.reduceNeg, Int.reduceGT, Int.reduceGE, Int.reduceNe, ne_eq, not_false_eq_true, hge']
            rcases Nat.eq_zero_or_pos acc.length with h0 | h0
            case' inl =>
              have hz : decide ((acc.length : Int) > 0) = false := by simp [h0]
              have ht : tildeL acc = false := by unfold tildeL; rw [decide_eq_false (by omega)]; rfl
              rw [ht] at hone hp ⊢
              simp only [go_sem, Nat.reduceAdd, Nat.reduceLeDiff, Nat.reduceSub, Nat.reduceMul, Nat.reduceEqDiff, Int.reduceEq, Int.reduceLT, Int.reduceLE, Int.reduceAdd, Int.reduceSub, Int.reduceNeg, Int.reduceGT, Int.reduceGE, Int.reduceNe, ne_eq, not_false_eq_true, hz, hone]
              generalize oneA (c :: r) false = z at hp
            case' inr =>
              have hz : decide ((acc.length : Int) > 0) = true := by simp; omega
              have ht : tildeL acc = decide ((acc.getLastD .zero).text = [126]) := by unfold tildeL; rw [decide_eq_true h0]; rfl
              rw [ht] at hone hp ⊢
              simp only [go_sem, Nat.reduceAdd, Nat.reduceLeDiff, Nat.reduceSub, Nat.reduceMul, Nat.reduceEqDiff, Int.reduceEq, Int.reduceLT, Int.reduceLE, Int.reduceAdd, Int.reduceSub, Int.reduceNeg, Int.reduceGT, Int.reduceGE, Int.reduceNe, ne_eq, not_false_eq_true, hz]
              rw [wrap64 (by omega) (by omega), last_facts a.list? h0]
              simp only [go_sem, Nat.reduceAdd, Nat.reduceLeDiff, Nat.reduceSub, Nat.reduceMul, Nat.reduceEqDiff, Int.reduceEq, Int.reduceLT, Int.reduceLE, Int.reduceAdd, Int.reduceSub, Int.reduceNeg, Int.reduceGT, Int.reduceGE, Int.reduceNe, ne_eq, not_false_eq_true, hone, LTok.cells]
              generalize oneA (c :: r) (decide ((acc.getLastD .zero).text = [126])) = z at hp
            all_goals
              obtain ⟨e, k, p, t, m⟩ := z
              simp only [go_sem, Nat.reduceAdd, Nat.reduceLeDiff, Nat.reduceSub, Nat.reduceMul, Nat.reduceEqDiff, Int.reduceEq, Int.reduceLT, Int.reduceLE, Int.reduceAdd, Int.reduceSub, Int.reduceNeg, Int.reduceGT, Int.reduceGE, Int.reduceNe, ne_eq, not_false_eq_true, LTok.cells_mk]
              cases he : decide (e = 0)
              · simp only [go_sem, Nat.reduceAdd, Nat.reduceLeDiff, Nat.reduceSub, Nat.reduceMul, Nat.reduceEqDiff, Int.reduceEq, Int.reduceLT, Int.reduceLE, Int.reduceAdd, Int.reduceSub, Int.reduceNeg, Int.reduceGT, Int.reduceGE, Int.reduceNe, ne_eq, not_false_eq_true, LTok.enc, LTok.cells_mk]
                have := scan_end acc x s0 s a e pre.length
                rw [he] at this
                exact this
              · obtain ⟨hp1, hp2, hp3⟩ := hp (of_decide_eq_true he)
                simp only at hp1 hp2 hp3
                obtain ⟨x', s', ha, a'⟩ := tokAcc (b := ⟨k, pre.length, t, m⟩) a (by omega)
                have ht1 := hp1.length_le
                have ht0 : 0 < t.length := List.length_pos_iff.2 hp2
                simp only [List.length_cons] at ht1
                simp only [LTok.enc, LTok.cells_mk] at ha
                simp only [go_sem, Nat.reduceAdd, Nat.reduceLeDiff, Nat.reduceSub, Nat.reduceMul, Nat.reduceEqDiff, Int.reduceEq, Int.reduceLT, Int.reduceLE, Int.reduceAdd, Int.reduceSub, Int.reduceNeg, Int.reduceGT, Int.reduceGE, Int.reduceNe, ne_eq, not_false_eq_true, LTok.enc, LTok.cells_mk, ha]
                rw [wrap64 (by omega) (by omega)]
                exact ih ((c :: r).drop t.length) (pre ++ (c :: r).take t.length) _ x' s' (pre.length + t.length) (by simp; omega) (by rw [List.append_assoc, List.take_append_drop, h]) (by simp; omega) a' (by simp; omega)
          · have hge' : decide ((acc.length : Int) ≥ 16384) = true := by simp at hge ⊢; omega
            simp only [go_sem, Nat.reduceAdd, Nat.reduceLeDiff, Nat.reduceSub, Nat.reduceMul, Nat.reduceEqDiff, Int.reduceEq, Int.reduceLT, Int.reduceLE, Int.reduceAdd, Int.reduceSub, Int.reduceNeg, Int.reduceGT, Int.reduceGE, Int.reduceNe, ne_eq, not_false_eq_true, hge']
            exact scan_end acc x s0 s a 4 pre.length
        · simp only [go_sem, Nat.reduceAdd, Nat.reduceLeDiff, Nat.reduceSub, Nat.reduceMul, Nat.reduceEqDiff, Int.reduceEq, Int.reduceLT, Int.reduceLE, Int.reduceAdd, Int.reduceSub, Int.reduceNeg, Int.reduceGT, Int.reduceGE, Int.reduceNe, ne_eq, not_false_eq_true]
          cases hcom : lxCom 0 (c :: r) with
          | none =>
            simp only [go_sem, Nat.reduceAdd, Nat.reduceLeDiff, Nat.reduceSub, Nat.reduceMul, Nat.reduceEqDiff, Int.reduceEq, Int.reduceLT, Int.reduceLE, Int.reduceAdd, Int.reduceSub, Int.reduceNeg, Int.reduceGT, Int.reduceGE, Int.reduceNe, ne_eq, not_false_eq_true]
            exact scan_end acc x s0 s a 12 pre.length
          | some k =>
            have hk := com_le _ _ _ hcom
            simp only [List.length_cons] at hk
            have hneg : decide (((pre.length + k : Nat) : Int) < 0) = false := by simp; omega
            simp only [go_sem, Nat.reduceAdd, Nat.reduceLeDiff, Nat.reduceSub, Nat.reduceMul, Nat.reduceEqDiff, Int.reduceEq, Int.reduceLT, Int.reduceLE, Int.reduceAdd, Int.reduceSub, Int.reduceNeg, Int.reduceGT, Int.reduceGE, Int.reduceNe, ne_eq, not_false_eq_true, hneg]
            exact ih ((c :: r).drop k) (pre ++ (c :: r).take k) acc x s (pre.length + k) (by simp; omega) (by rw [List.append_assoc, List.take_append_drop, h]) (by simp; omega) a (by simp; omega)
      · simp only [go_sem, Nat.reduceAdd, Nat.reduceLeDiff, Nat.reduceSub, Nat.reduceMul, Nat.reduceEqDiff, Int.reduceEq, Int.reduceLT, Int.reduceLE, Int.reduceAdd, Int.reduceSub, Int.reduceNeg, Int.reduceGT, Int.reduceGE, Int.reduceNe, ne_eq, not_false_eq_true]
        rw [wrap64 (by omega) (by omega)]
        exact ih r (pre ++ [c]) acc x s (pre.length + 1) (by omega) (by simp [h]) (by simp) a (by simp; omega)
theorem lex_Scan_spec (L : Str) (hl : L.length < 2^60) (s : St) : ∃ nl s', cw (.f F_lex_Scan) [.str L] s = some (.ret (.val (.tup [encS nl ((lxScan L).1.map LTok.enc), badEnc (lxScan L).2.1 (lxScan L).2.2])), s') ∧ Grew s s' := by
  rw [lex_Scan_eq]
  unfold lxScan
  simp only [go_sem, Nat.reduceAdd, Nat.reduceLeDiff, Nat.reduceSub, Nat.reduceMul, Nat.reduceEqDiff, Int.reduceEq, Int.reduceLT, Int.reduceLE, Int.reduceAdd, Int.reduceSub, Int.reduceNeg, Int.reduceGT, Int.reduceGE, Int.reduceNe, ne_eq, not_false_eq_true]
  cases hb : decide ((L.length : Int) > 65536)
  · simp only [go_sem, Nat.reduceAdd, Nat.reduceLeDiff, Nat.reduceSub, Nat.reduceMul, Nat.reduceEqDiff, Int.reduceEq, Int.reduceLT, Int.reduceLE, Int.reduceAdd, Int.reduceSub, Int.reduceNeg, Int.reduceGT, Int.reduceGE, Int.reduceNe, ne_eq, not_false_eq_true]
    exact scan_loop L (by simp at hb; omega) s (L.length + 1) L [] [] (.val .nils) s 0 (by omega) rfl rfl (AccR.nil _ _) (by simp)
  · simp only [go_sem, Nat.reduceAdd, Nat.reduceLeDiff, Nat.reduceSub, Nat.reduceMul, Nat.reduceEqDiff, Int.reduceEq, Int.reduceLT, Int.reduceLE, Int.reduceAdd, Int.reduceSub, Int.reduceNeg, Int.reduceGT, Int.reduceGE, Int.reduceNe, ne_eq, not_false_eq_true]
    exact ⟨true, s, rfl, .refl s⟩
end Go.Proofs.YtadhckhgemongaaDoor

namespace Go.Am
open Go
def smaB (n : Int) : Bool := decide (n ≥ 97) && decide (n ≤ 122)
def greB (n : Int) : Bool := decide (n ≥ 65) && decide (n ≤ 90)
def hasP (s t : Str) : Bool := decide (t.length ≤ s.length) && decide (s.take t.length = t)
def lxCloses (s : Str) : Bool := match s with
  | a :: b :: _ => decide (a = 42) && decide (b = 41)
  | _ => false
theorem hasP_opens (s : Str) : hasP s [40, 42] = lxOpens s := by
  match s with
  | [] => rfl
  | [_] => rfl
  | a :: b :: r => simp [hasP, lxOpens, Bool.decide_and]
theorem hasP_closes (s : Str) : hasP s [42, 41] = lxCloses s := by
  match s with
  | [] => rfl
  | [_] => rfl
  | a :: b :: r => simp [hasP, lxCloses, Bool.decide_and]
/-- the length of the run at the beginning -/
def runLen (s : Str) : Nat := bif firC (s.headD 0) then (s.takeWhile amoC).length else 0
/-! ### numbers -/
def numS : Int → Str → Int
  | acc, [] => acc
  | acc, c :: r => numS (if 1099511627776 < 10 * acc + (c.toNat : Int) - 48 then 1099511627776 else 10 * acc + (c.toNat : Int) - 48) r
theorem lxDigs {c : UInt8} (h : digC c = true) : (48 : Int) ≤ c.toNat ∧ (c.toNat : Int) ≤ 57 := by
  simp only [digC, digB, Bool.and_eq_true, decide_eq_true_eq] at h
  omega
theorem numV_ge : ∀ (r : Str) (acc : Int), r.all digC = true → 0 ≤ acc → acc * 10 ^ r.length ≤ numV acc r
  | [], acc, _, _ => by simp [numV]
  | c :: r, acc, h, h0 => by
    simp only [List.all_cons, Bool.and_eq_true] at h
    have hb := lxDigs h.1
    have := numV_ge r (10 * acc + ((c.toNat : Int) - 48)) h.2 (by omega)
    refine Int.le_trans ?_ this
    rw [List.length_cons, Int.pow_succ, Int.mul_comm (10 ^ r.length) 10, ← Int.mul_assoc]
    exact Int.mul_le_mul_of_nonneg_right (by omega) (Int.pow_nonneg (by decide))
theorem numS_eq : ∀ (r : Str) (a : Int), r.all digC = true → 0 ≤ a → numS (if 1099511627776 < a then 1099511627776 else a) r = if 1099511627776 < numV a r then 1099511627776 else numV a r
  | [], a, _, _ => rfl
  | c :: r, a, h, h0 => by
    simp only [List.all_cons, Bool.and_eq_true] at h
    have hb := lxDigs h.1
    have := numS_eq r (10 * a + ((c.toNat : Int) - 48)) h.2 (by omega)
    rw [numS, numV, ← this]
    congr 1
    split <;> split <;> split <;> omega
theorem numV_lt : ∀ (r : Str) (acc : Int), r.all digC = true → 0 ≤ acc → numV acc r < (acc + 1) * 10 ^ r.length
  | [], acc, _, _ => by simp [numV]; omega
  | c :: r, acc, h, h0 => by
    simp only [List.all_cons, Bool.and_eq_true] at h
    have hb := lxDigs h.1
    have := numV_lt r (10 * acc + ((c.toNat : Int) - 48)) h.2 (by omega)
    refine Int.lt_of_lt_of_le this ?_
    rw [List.length_cons, Int.pow_succ, Int.mul_comm (10 ^ r.length) 10, ← Int.mul_assoc]
    exact Int.mul_le_mul_of_nonneg_right (by omega) (Int.pow_nonneg (by decide))
/-- the document's word on a number -/
def badR (t : Str) (m : Bool) : Bool := decide ((t.length : Int) > 1) && decide (t.headD 0 = 48) || decide (numS 0 t > 1073741824) || decide (numS 0 t = 1073741824) && !m
theorem badR_eq (t : Str) (m : Bool) (h0 : t ≠ []) (hd : t.all digC = true) : badR t m = !(numA t m).2 ∧ ((numA t m).2 = true → numS 0 t = (numA t m).1) := by
  have hs := numS_eq t 0 hd (by decide)
  rw [show (if (1099511627776 : Int) < 0 then (1099511627776 : Int) else 0) = 0 from rfl] at hs
  unfold badR numA
  cases h1 : decide ((t.length : Int) > 1) && decide (t.headD 0 = 48)
  · cases h2 : decide ((t.length : Int) > 10)
    · have hlt := numV_lt t 0 hd (by decide)
      have hp : (10 : Int) ^ t.length ≤ 10 ^ 10 := by
        have h3 : t.length ≤ 10 := by simp at h2; omega
        exact_mod_cast Nat.pow_le_pow_right (n := 10) (by decide) h3
      have he : numS 0 t = numV 0 t := by rw [hs, if_neg (by omega)]
      rw [he]
      simp only [Bool.false_or, cond_false]
      refine ⟨?_, fun _ => trivial⟩
      generalize numV 0 t = v
      cases m
      · by_cases g1 : v > 1073741824 <;> by_cases g2 : v = 1073741824 <;> by_cases g3 : v < 1073741824 <;> simp [g1, g2, g3] <;> omega
      · by_cases g1 : v > 1073741824 <;> by_cases g2 : v = 1073741824 <;> by_cases g3 : v < 1073741824 <;> simp [g1, g2, g3] <;> omega
    · simp only [Bool.or_true, cond_true]
      have h3 : 10 < t.length := by simp at h2; omega
      obtain ⟨c, r, rfl⟩ := List.exists_cons_of_ne_nil h0
      simp only [List.all_cons, Bool.and_eq_true] at hd
      have hb := lxDigs hd.1
      have hne : c ≠ 48 := by
        intro e
        subst e
        simp at h1
        simp only [List.length_cons] at h3
        omega
      have hge := numV_ge r ((c.toNat : Int) - 48) hd.2 (by omega)
      have hc : (1 : Int) ≤ (c.toNat : Int) - 48 := by
        have : (c.toNat : Int) ≠ 48 := fun e => hne (UInt8.toNat_inj.1 (by show _ = 48; omega))
        omega
      have hp : (10 : Int) ^ 10 ≤ 10 ^ r.length := by
        have h4 : 10 ≤ r.length := by simp only [List.length_cons] at h3; omega
        exact_mod_cast Nat.pow_le_pow_right (n := 10) (by decide) h4
      have hv : (10 : Int) ^ 10 ≤ numV 0 (c :: r) := by
        refine Int.le_trans hp (Int.le_trans ?_ (show _ ≤ numV (10 * 0 + ((c.toNat : Int) - 48)) r from by simpa using hge))
        have := Int.mul_le_mul_of_nonneg_right hc (show (0 : Int) ≤ 10 ^ r.length from Int.pow_nonneg (by decide))
        omega
      rw [hs]
      refine ⟨?_, fun h => by cases h⟩
      have : decide ((if (1099511627776 : Int) < numV 0 (c :: r) then (1099511627776 : Int) else numV 0 (c :: r)) > 1073741824) = true := by
        rw [decide_eq_true_eq]
        split <;> omega
      rw [this]
      rfl
  · simp only [Bool.true_or, cond_true, Bool.not_false, true_and]
    exact fun h => by cases h
/-! ### signs -/
def signR (s : Str) : Str := lsigns.foldl (fun t w => bif hasP s w && decide (w.length > t.length) then w else t) []
theorem signR_eq (s : Str) : signR s = signA s := by
  match s with
  | [] => rfl
  | [a] =>
    by_cases h1 : a = 33
    · subst h1; rfl
    by_cases h2 : a = 40
    · subst h2; rfl
    by_cases h3 : a = 41
    · subst h3; rfl
    by_cases h4 : a = 42
    · subst h4; rfl
    by_cases h5 : a = 43
    · subst h5; rfl
    by_cases h6 : a = 44
    · subst h6; rfl
    by_cases h7 : a = 45
    · subst h7; rfl
    by_cases h8 : a = 58
    · subst h8; rfl
    by_cases h9 : a = 59
    · subst h9; rfl
    by_cases h10 : a = 60
    · subst h10; rfl
    by_cases h11 : a = 61
    · subst h11; rfl
    by_cases h12 : a = 95
    · subst h12; rfl
    by_cases h13 : a = 124
    · subst h13; rfl
    by_cases h14 : a = 126
    · subst h14; rfl
    simp [signR, signA, lsigns, hasL, hasP, *]
  | a :: b :: r =>
    by_cases k1 : b = 61
    · subst k1
      by_cases h0 : a = 33
      · subst h0; simp [signR, signA, lsigns, hasL, hasP, *]
      by_cases h1 : a = 40
      · subst h1; simp [signR, signA, lsigns, hasL, hasP, *]
      by_cases h2 : a = 41
      · subst h2; simp [signR, signA, lsigns, hasL, hasP, *]
      by_cases h3 : a = 42
      · subst h3; simp [signR, signA, lsigns, hasL, hasP, *]
      by_cases h4 : a = 43
      · subst h4; simp [signR, signA, lsigns, hasL, hasP, *]
      by_cases h5 : a = 44
      · subst h5; simp [signR, signA, lsigns, hasL, hasP, *]
      by_cases h6 : a = 45
      · subst h6; simp [signR, signA, lsigns, hasL, hasP, *]
      by_cases h7 : a = 58
      · subst h7; simp [signR, signA, lsigns, hasL, hasP, *]
      by_cases h8 : a = 59
      · subst h8; simp [signR, signA, lsigns, hasL, hasP, *]
      by_cases h9 : a = 60
      · subst h9; simp [signR, signA, lsigns, hasL, hasP, *]
      by_cases h10 : a = 61
      · subst h10; simp [signR, signA, lsigns, hasL, hasP, *]
      by_cases h11 : a = 95
      · subst h11; simp [signR, signA, lsigns, hasL, hasP, *]
      by_cases h12 : a = 124
      · subst h12; simp [signR, signA, lsigns, hasL, hasP, *]
      by_cases h13 : a = 126
      · subst h13; simp [signR, signA, lsigns, hasL, hasP, *]
      simp [signR, signA, lsigns, hasL, hasP, *]
    by_cases k2 : b = 62
    · subst k2
      by_cases h0 : a = 33
      · subst h0; simp [signR, signA, lsigns, hasL, hasP, *]
      by_cases h1 : a = 40
      · subst h1; simp [signR, signA, lsigns, hasL, hasP, *]
      by_cases h2 : a = 41
      · subst h2; simp [signR, signA, lsigns, hasL, hasP, *]
      by_cases h3 : a = 42
      · subst h3; simp [signR, signA, lsigns, hasL, hasP, *]
      by_cases h4 : a = 43
      · subst h4; simp [signR, signA, lsigns, hasL, hasP, *]
      by_cases h5 : a = 44
      · subst h5; simp [signR, signA, lsigns, hasL, hasP, *]
      by_cases h6 : a = 45
      · subst h6; simp [signR, signA, lsigns, hasL, hasP, *]
      by_cases h7 : a = 58
      · subst h7; simp [signR, signA, lsigns, hasL, hasP, *]
      by_cases h8 : a = 59
      · subst h8; simp [signR, signA, lsigns, hasL, hasP, *]
      by_cases h9 : a = 60
      · subst h9; simp [signR, signA, lsigns, hasL, hasP, *]
      by_cases h10 : a = 61
      · subst h10; simp [signR, signA, lsigns, hasL, hasP, *]
      by_cases h11 : a = 95
      · subst h11; simp [signR, signA, lsigns, hasL, hasP, *]
      by_cases h12 : a = 124
      · subst h12; simp [signR, signA, lsigns, hasL, hasP, *]
      by_cases h13 : a = 126
      · subst h13; simp [signR, signA, lsigns, hasL, hasP, *]
      simp [signR, signA, lsigns, hasL, hasP, *]
    by_cases h0 : a = 33
    · subst h0; simp [signR, signA, lsigns, hasL, hasP, *]
    by_cases h1 : a = 40
    · subst h1; simp [signR, signA, lsigns, hasL, hasP, *]
    by_cases h2 : a = 41
    · subst h2; simp [signR, signA, lsigns, hasL, hasP, *]
    by_cases h3 : a = 42
    · subst h3; simp [signR, signA, lsigns, hasL, hasP, *]
    by_cases h4 : a = 43
    · subst h4; simp [signR, signA, lsigns, hasL, hasP, *]
    by_cases h5 : a = 44
    · subst h5; simp [signR, signA, lsigns, hasL, hasP, *]
    by_cases h6 : a = 45
    · subst h6; simp [signR, signA, lsigns, hasL, hasP, *]
    by_cases h7 : a = 58
    · subst h7; simp [signR, signA, lsigns, hasL, hasP, *]
    by_cases h8 : a = 59
    · subst h8; simp [signR, signA, lsigns, hasL, hasP, *]
    by_cases h9 : a = 60
    · subst h9; simp [signR, signA, lsigns, hasL, hasP, *]
    by_cases h10 : a = 61
    · subst h10; simp [signR, signA, lsigns, hasL, hasP, *]
    by_cases h11 : a = 95
    · subst h11; simp [signR, signA, lsigns, hasL, hasP, *]
    by_cases h12 : a = 124
    · subst h12; simp [signR, signA, lsigns, hasL, hasP, *]
    by_cases h13 : a = 126
    · subst h13; simp [signR, signA, lsigns, hasL, hasP, *]
    simp [signR, signA, lsigns, hasL, hasP, *]
end Go.Am

namespace Go.Proofs.YtadhckhgemongaaDoor
open Go Go.Am
set_option linter.unusedVariables false
set_option maxRecDepth 4000
theorem ref04_digit_spec (n : Int) (s : St) : cw (.f F_ref04_digit) [.int .u8 n] s = some (.ret (.val (.bool (digB n))), s) := by
  rw [ref04_digit_eq]; simp only [go_sem, Nat.reduceAdd, Nat.reduceLeDiff, Nat.reduceSub, Nat.reduceMul, Nat.reduceEqDiff, Int.reduceEq, Int.reduceLT, Int.reduceLE, Int.reduceAdd, Int.reduceSub, Int.reduceNeg, Int.reduceGT, Int.reduceGE, Int.reduceNe, ne_eq, not_false_eq_true]; rfl
theorem ref04_small_spec (n : Int) (s : St) : cw (.f F_ref04_small) [.int .u8 n] s = some (.ret (.val (.bool (smaB n))), s) := by
  rw [ref04_small_eq]; simp only [go_sem, Nat.reduceAdd, Nat.reduceLeDiff, Nat.reduceSub, Nat.reduceMul, Nat.reduceEqDiff, Int.reduceEq, Int.reduceLT, Int.reduceLE, Int.reduceAdd, Int.reduceSub, Int.reduceNeg, Int.reduceGT, Int.reduceGE, Int.reduceNe, ne_eq, not_false_eq_true]; rfl
theorem ref04_great_spec (n : Int) (s : St) : cw (.f F_ref04_great) [.int .u8 n] s = some (.ret (.val (.bool (greB n))), s) := by
  rw [ref04_great_eq]; simp only [go_sem, Nat.reduceAdd, Nat.reduceLeDiff, Nat.reduceSub, Nat.reduceMul, Nat.reduceEqDiff, Int.reduceEq, Int.reduceLT, Int.reduceLE, Int.reduceAdd, Int.reduceSub, Int.reduceNeg, Int.reduceGT, Int.reduceGE, Int.reduceNe, ne_eq, not_false_eq_true]; rfl
theorem ref04_blank_spec (c : UInt8) (s : St) : cw (.f F_ref04_blank) [.int .u8 c.toNat] s = some (.ret (.val (.bool (blankC c))), s) := by
  rw [ref04_blank_eq]; simp only [go_sem, Nat.reduceAdd, Nat.reduceLeDiff, Nat.reduceSub, Nat.reduceMul, Nat.reduceEqDiff, Int.reduceEq, Int.reduceLT, Int.reduceLE, Int.reduceAdd, Int.reduceSub, Int.reduceNeg, Int.reduceGT, Int.reduceGE, Int.reduceNe, ne_eq, not_false_eq_true]
  rw [show decide ((c.toNat : Int) = 32) = decide (c = 32) from toNat_eq c 32 (by decide), show decide ((c.toNat : Int) = 9) = decide (c = 9) from toNat_eq c 9 (by decide),
    show decide ((c.toNat : Int) = 10) = decide (c = 10) from toNat_eq c 10 (by decide), show decide ((c.toNat : Int) = 13) = decide (c = 13) from toNat_eq c 13 (by decide)]
  rfl
theorem ref04_has_spec (pre suf t : Str) (hl : (pre ++ suf).length < 2^60) (ht : t.length < 2^60) (i : Nat) (hi : i = pre.length) (s : St) : cw (.f F_ref04_has) [.str (pre ++ suf), .int .i64 (i : Int), .str t] s = some (.ret (.val (.bool (hasP suf t))), s) := by
  subst hi
  have hL : (pre ++ suf).length = pre.length + suf.length := by simp
  rw [ref04_has_eq]
  generalize hLe : pre ++ suf = L at hl hL ⊢
  simp only [go_sem, Nat.reduceAdd, Nat.reduceLeDiff, Nat.reduceSub, Nat.reduceMul, Nat.reduceEqDiff, Int.reduceEq, Int.reduceLT, Int.reduceLE, Int.reduceAdd, Int.reduceSub, Int.reduceNeg, Int.reduceGT, Int.reduceGE, Int.reduceNe, ne_eq, not_false_eq_true]
  rw [wrap64 (by omega) (by omega)]
  unfold hasP
  cases h : decide (t.length ≤ suf.length)
  · have hb : decide ((L.length : Int) - (pre.length : Int) ≥ (t.length : Int)) = false := by simp at h ⊢; omega
    simp only [go_sem, Nat.reduceAdd, Nat.reduceLeDiff, Nat.reduceSub, Nat.reduceMul, Nat.reduceEqDiff, Int.reduceEq, Int.reduceLT, Int.reduceLE, Int.reduceAdd, Int.reduceSub, Int.reduceNeg, Int.reduceGT, Int.reduceGE, Int.reduceNe, ne_eq, not_false_eq_true, hb]
  · have hb : decide ((L.length : Int) - (pre.length : Int) ≥ (t.length : Int)) = true := by simp at h ⊢; omega
    have hle := of_decide_eq_true h
    have hs := sliceS_mid (t := C.ti T_string) T_string_k (l := L) (i := pre.length) (j := pre.length + t.length) (by omega) (by omega)
    have e : (pre.length : Int) + (t.length : Int) = ((pre.length + t.length : Nat) : Int) := by omega
    rw [← hLe, mid_app, hLe] at hs
    simp only [go_sem, Nat.reduceAdd, Nat.reduceLeDiff, Nat.reduceSub, Nat.reduceMul, Nat.reduceEqDiff, Int.reduceEq, Int.reduceLT, Int.reduceLE, Int.reduceAdd, Int.reduceSub, Int.reduceNeg, Int.reduceGT, Int.reduceGE, Int.reduceNe, ne_eq, not_false_eq_true, hb]
    rw [wrap64 (by omega) (by omega), e, hs]
    simp only [go_sem, Nat.reduceAdd, Nat.reduceLeDiff, Nat.reduceSub, Nat.reduceMul, Nat.reduceEqDiff, Int.reduceEq, Int.reduceLT, Int.reduceLE, Int.reduceAdd, Int.reduceSub, Int.reduceNeg, Int.reduceGT, Int.reduceGE, Int.reduceNe, ne_eq, not_false_eq_true]
theorem rremark_loop (L : Str) (hl : L.length < 2^59) : ∀ (suf pre : Str) (d : Int) (s : St) (i : Nat), pre ++ suf = L → i = pre.length → -(pre.length : Int) ≤ d → d ≤ pre.length →
    ref04_remark_l0 (.val (.str L)) (.val (.int .i64 d)) (.val (.int .i64 (i : Int))) s = some (.ret (.val (.int .i64 (match lxCom d suf with | some k => ((i + k : Nat) : Int) | none => -1))), s) := by
  intro suf
  generalize hn : suf.length = n
  induction n using Nat.strongRecOn generalizing suf with
  | ind n ih =>
    intro pre d s i h hi hd1 hd2
    subst hi
    have hL : pre.length + suf.length = L.length := by rw [← h]; simp
    rw [ref04_remark_l0_eq]
    have ho := fun s => ref04_has_spec pre suf [40, 42] (by rw [h]; omega) (by decide) pre.length rfl s
    have hc := fun s => ref04_has_spec pre suf [42, 41] (by rw [h]; omega) (by decide) pre.length rfl s
    rw [h, hasP_opens] at ho
    rw [h, hasP_closes] at hc
    match suf, hn, h, hL with
    | [], _, h, hL =>
      simp only [List.length_nil, Nat.add_zero] at hL
      have hb : decide ((pre.length : Int) < (L.length : Int)) = false := by simp; omega
      simp only [go_sem, Nat.reduceAdd, Nat.reduceLeDiff, Nat.reduceSub, Nat.reduceMul, Nat.reduceEqDiff, Int.reduceEq, Int.reduceLT, Int.reduceLE, Int.reduceAdd, Int.reduceSub, Int.reduceNeg, Int.reduceGT, Int.reduceGE, Int.reduceNe, ne_eq, not_false_eq_true, hb, lxCom]
    | [a], hn, h, hL =>
      simp only [List.length_cons, List.length_nil] at hL hn
      have hb : decide ((pre.length : Int) < (L.length : Int)) = true := by simp; omega
      have i3 := ih 0 (by omega) [] rfl (pre ++ [a]) d s (pre.length + 1) (by simp [h]) (by simp) (by simp; omega) (by simp; omega)
      simp only [go_sem, Nat.reduceAdd, Nat.reduceLeDiff, Nat.reduceSub, Nat.reduceMul, Nat.reduceEqDiff, Int.reduceEq, Int.reduceLT, Int.reduceLE, Int.reduceAdd, Int.reduceSub, Int.reduceNeg, Int.reduceGT, Int.reduceGE, Int.reduceNe, ne_eq, not_false_eq_true, hb, ho, hc, lxOpens, lxCloses]
      rw [wrap64 (by omega) (by omega)]
      have e1 : (pre.length : Int) + 1 = ((pre.length + 1 : Nat) : Int) := by omega
      rw [e1, i3]
      simp only [lxCom]
    | a :: b :: r, hn, h, hL =>
      simp only [List.length_cons] at hL hn
      have hb : decide ((pre.length : Int) < (L.length : Int)) = true := by simp; omega
      simp only [go_sem, Nat.reduceAdd, Nat.reduceLeDiff, Nat.reduceSub, Nat.reduceMul, Nat.reduceEqDiff, Int.reduceEq, Int.reduceLT, Int.reduceLE, Int.reduceAdd, Int.reduceSub, Int.reduceNeg, Int.reduceGT, Int.reduceGE, Int.reduceNe, ne_eq, not_false_eq_true, hb, ho, hc, lxOpens, lxCloses]
      rw [wrap64 (n := (pre.length : Int) + 2) (by omega) (by omega), wrap64 (n := (pre.length : Int) + 1) (by omega) (by omega), wrap64 (n := d + 1) (by omega) (by omega), wrap64 (n := d - 1) (by omega) (by omega)]
      have i1 := ih r.length (by omega) r rfl (pre ++ [a, b]) (d + 1) s (pre.length + 2) (by simp [h]) (by simp) (by simp; omega) (by simp; omega)
      have i2 := ih r.length (by omega) r rfl (pre ++ [a, b]) (d - 1) s (pre.length + 2) (by simp [h]) (by simp) (by simp; omega) (by simp; omega)
      have i3 := ih (r.length + 1) (by omega) (b :: r) (by simp) (pre ++ [a]) d s (pre.length + 1) (by simp [h]) (by simp) (by simp; omega) (by simp; omega)
      have e1 : (pre.length : Int) + 1 = ((pre.length + 1 : Nat) : Int) := by omega
      have e2 : (pre.length : Int) + 2 = ((pre.length + 2 : Nat) : Int) := by omega
      rw [e1, e2, i1, i2, i3, com_cons]
      cases decide (a = 40) && decide (b = 42)
      · cases decide (a = 42) && decide (b = 41)
        · simp only [go_sem, Nat.reduceAdd, Nat.reduceLeDiff, Nat.reduceSub, Nat.reduceMul, Nat.reduceEqDiff, Int.reduceEq, Int.reduceLT, Int.reduceLE, Int.reduceAdd, Int.reduceSub, Int.reduceNeg, Int.reduceGT, Int.reduceGE, Int.reduceNe, ne_eq, not_false_eq_true]
          cases lxCom d (b :: r) <;> simp only [go_sem, Nat.reduceAdd, Nat.reduceLeDiff, Nat.reduceSub, Nat.reduceMul, Nat.reduceEqDiff, Int.reduceEq, Int.reduceLT, Int.reduceLE, Int.reduceAdd, Int.reduceSub, Int.reduceNeg, Int.reduceGT, Int.reduceGE, Int.reduceNe, ne_eq, not_false_eq_true]
          simp; omega
        · simp only [go_sem, Nat.reduceAdd, Nat.reduceLeDiff, Nat.reduceSub, Nat.reduceMul, Nat.reduceEqDiff, Int.reduceEq, Int.reduceLT, Int.reduceLE, Int.reduceAdd, Int.reduceSub, Int.reduceNeg, Int.reduceGT, Int.reduceGE, Int.reduceNe, ne_eq, not_false_eq_true]
          cases decide (d - 1 = 0)
          · simp only [go_sem, Nat.reduceAdd, Nat.reduceLeDiff, Nat.reduceSub, Nat.reduceMul, Nat.reduceEqDiff, Int.reduceEq, Int.reduceLT, Int.reduceLE, Int.reduceAdd, Int.reduceSub, Int.reduceNeg, Int.reduceGT, Int.reduceGE, Int.reduceNe, ne_eq, not_false_eq_true]
            cases lxCom (d - 1) r <;> simp only [go_sem, Nat.reduceAdd, Nat.reduceLeDiff, Nat.reduceSub, Nat.reduceMul, Nat.reduceEqDiff, Int.reduceEq, Int.reduceLT, Int.reduceLE, Int.reduceAdd, Int.reduceSub, Int.reduceNeg, Int.reduceGT, Int.reduceGE, Int.reduceNe, ne_eq, not_false_eq_true]
            simp; omega
          · simp only [go_sem, Nat.reduceAdd, Nat.reduceLeDiff, Nat.reduceSub, Nat.reduceMul, Nat.reduceEqDiff, Int.reduceEq, Int.reduceLT, Int.reduceLE, Int.reduceAdd, Int.reduceSub, Int.reduceNeg, Int.reduceGT, Int.reduceGE, Int.reduceNe, ne_eq, not_false_eq_true]
      · simp only [go_sem, Nat.reduceAdd, Nat.reduceLeDiff, Nat.reduceSub, Nat.reduceMul, Nat.reduceEqDiff, Int.reduceEq, Int.reduceLT, Int.reduceLE, Int.reduceAdd, Int.reduceSub, Int.reduceNeg, Int.reduceGT, Int.reduceGE, Int.reduceNe, ne_eq, not_false_eq_true]
        cases lxCom (d + 1) r <;> simp only [go_sem, Nat.reduceAdd, Nat.reduceLeDiff, Nat.reduceSub, Nat.reduceMul, Nat.reduceEqDiff, Int.reduceEq, Int.reduceLT, Int.reduceLE, Int.reduceAdd, Int.reduceSub, Int.reduceNeg, Int.reduceGT, Int.reduceGE, Int.reduceNe, ne_eq, not_false_eq_true]
        simp; omega
theorem ref04_remark_spec (pre suf : Str) (hl : (pre ++ suf).length < 2^59) (s : St) : cw (.f F_ref04_remark) [.str (pre ++ suf), .int .i64 (pre.length : Int)] s = some (.ret (.val (.int .i64 (match lxCom 0 suf with | some k => ((pre.length + k : Nat) : Int) | none => -1))), s) := by
  rw [ref04_remark_eq]
  exact rremark_loop (pre ++ suf) hl suf pre 0 s pre.length rfl rfl (by omega) (by omega)
theorem in_loop (x : Str) (L : List Str) (hl : L.length < 2^62) : ∀ (suf pre : List Str) (s : St) (i : Nat), pre ++ suf = L → i = pre.length →
    ref04_in_l0 (.val (.sl (L.map .str))) (.val (.str x)) (.val (.int .i64 L.length)) (.val (.int .i64 (i : Int))) s = some (.ret (.val (.bool (hasL suf x))), s) := by
  intro suf
  induction suf with
  | nil =>
    intro pre s i h hi
    rw [List.append_nil] at h
    subst h hi
    rw [ref04_in_l0_eq]
    simp only [go_sem, Nat.reduceAdd, Nat.reduceLeDiff, Nat.reduceSub, Nat.reduceMul, Nat.reduceEqDiff, Int.reduceEq, Int.reduceLT, Int.reduceLE, Int.reduceAdd, Int.reduceSub, Int.reduceNeg, Int.reduceGT, Int.reduceGE, Int.reduceNe, ne_eq, not_false_eq_true, Int.lt_irrefl]
    rfl
  | cons c suf ih =>
    intro pre s i h hi
    subst hi
    obtain ⟨f1, f2, f3⟩ := step_facts (f := AV.str) (x := .val (.sl (L.map .str))) (sz := 1) rfl h hl rfl (by decide)
    have h1 := ih (pre ++ [c]) s (pre.length + 1) (by simp [h]) (by simp)
    rw [ref04_in_l0_eq]
    simp only [go_sem, Nat.reduceAdd, Nat.reduceLeDiff, Nat.reduceSub, Nat.reduceMul, Nat.reduceEqDiff, Int.reduceEq, Int.reduceLT, Int.reduceLE, Int.reduceAdd, Int.reduceSub, Int.reduceNeg, Int.reduceGT, Int.reduceGE, Int.reduceNe, ne_eq, not_false_eq_true, f1, f2, f3]
    rw [h1]
    simp only [hasL, List.any_cons]
    have e : decide (c = x) = decide (x = c) := by rw [decide_eq_decide]; exact eq_comm
    rw [e]
    cases decide (x = c) <;> rfl
theorem ref04_in_spec (x : Str) (L : List Str) (hl : L.length < 2^62) (s : St) : cw (.f F_ref04_in) [.sl (L.map .str), .str x] s = some (.ret (.val (.bool (hasL L x))), s) := by
  rw [ref04_in_eq]
  simp only [go_sem, Nat.reduceAdd, Nat.reduceLeDiff, Nat.reduceSub, Nat.reduceMul, Nat.reduceEqDiff, Int.reduceEq, Int.reduceLT, Int.reduceLE, Int.reduceAdd, Int.reduceSub, Int.reduceNeg, Int.reduceGT, Int.reduceGE, Int.reduceNe, ne_eq, not_false_eq_true]
  exact in_loop x L hl L [] s 0 rfl rfl
theorem ref04_Words_spec (s : St) : cw (.f F_ref04_Words) [] s = some (.ret (.full (lwords.map .str)), s) := by
  rw [ref04_Words_eq]; simp only [go_sem, Nat.reduceAdd, Nat.reduceLeDiff, Nat.reduceSub, Nat.reduceMul, Nat.reduceEqDiff, Int.reduceEq, Int.reduceLT, Int.reduceLE, Int.reduceAdd, Int.reduceSub, Int.reduceNeg, Int.reduceGT, Int.reduceGE, Int.reduceNe, ne_eq, not_false_eq_true]; rfl
theorem ref04_Signs_spec (s : St) : cw (.f F_ref04_Signs) [] s = some (.ret (.full (lsigns.map .str)), s) := by
  rw [ref04_Signs_eq]; simp only [go_sem, Nat.reduceAdd, Nat.reduceLeDiff, Nat.reduceSub, Nat.reduceMul, Nat.reduceEqDiff, Int.reduceEq, Int.reduceLT, Int.reduceLE, Int.reduceAdd, Int.reduceSub, Int.reduceNeg, Int.reduceGT, Int.reduceGE, Int.reduceNe, ne_eq, not_false_eq_true]; rfl
theorem rsign_loop (pre t : Str) (hl : (pre ++ t).length < 2^60) : ∀ (suf pr : List Str) (a : Str) (s : St) (i : Nat), pr ++ suf = lsigns → i = pr.length → a.length ≤ 2 →
    ref04_sign_l0 (.val (.str (pre ++ t))) (.val (.int .i64 (pre.length : Int))) (.full (lsigns.map .str)) (.val (.str a)) (.val (.int .i64 19)) (.val (.int .i64 (i : Int))) s =
      some (.ret (.val (.str (suf.foldl (fun a w => bif hasP t w && decide (w.length > a.length) then w else a) a))), s) := by
  intro suf
  induction suf with
  | nil =>
    intro pr a s i h hi ha
    rw [List.append_nil] at h
    subst h hi
    rw [ref04_sign_l0_eq, show ((lsigns.length : Nat) : Int) = 19 from rfl]
    simp only [go_sem, Nat.reduceAdd, Nat.reduceLeDiff, Nat.reduceSub, Nat.reduceMul, Nat.reduceEqDiff, Int.reduceEq, Int.reduceLT, Int.reduceLE, Int.reduceAdd, Int.reduceSub, Int.reduceNeg, Int.reduceGT, Int.reduceGE, Int.reduceNe, ne_eq, not_false_eq_true]
    rfl
  | cons c suf ih =>
    intro pr a s i h hi ha
    subst hi
    have hc2 : c.length ≤ 2 := by
      have hall : ∀ x ∈ lsigns, x.length ≤ 2 := by decide
      exact hall c (by rw [← h]; simp)
    obtain ⟨f1, f2, f3⟩ := step_facts (f := AV.str) (x := .full (lsigns.map .str)) (sz := 1) rfl h (by decide) rfl (by decide)
    rw [show ((lsigns.length : Nat) : Int) = 19 from rfl] at f1
    have hh := fun s => ref04_has_spec pre t c hl (by omega) pre.length rfl s
    have g1 := ih (pr ++ [c]) c s (pr.length + 1) (by simp [h]) (by simp) hc2
    have g2 := ih (pr ++ [c]) a s (pr.length + 1) (by simp [h]) (by simp) ha
    rw [ref04_sign_l0_eq]
    simp only [go_sem, Nat.reduceAdd, Nat.reduceLeDiff, Nat.reduceSub, Nat.reduceMul, Nat.reduceEqDiff, Int.reduceEq, Int.reduceLT, Int.reduceLE, Int.reduceAdd, Int.reduceSub, Int.reduceNeg, Int.reduceGT, Int.reduceGE, Int.reduceNe, ne_eq, not_false_eq_true, f1, f2, f3, hh, List.foldl_cons]
    cases hp : hasP t c
    · simp only [go_sem, Nat.reduceAdd, Nat.reduceLeDiff, Nat.reduceSub, Nat.reduceMul, Nat.reduceEqDiff, Int.reduceEq, Int.reduceLT, Int.reduceLE, Int.reduceAdd, Int.reduceSub, Int.reduceNeg, Int.reduceGT, Int.reduceGE, Int.reduceNe, ne_eq, not_false_eq_true]
      exact g2
    · simp only [go_sem, Nat.reduceAdd, Nat.reduceLeDiff, Nat.reduceSub, Nat.reduceMul, Nat.reduceEqDiff, Int.reduceEq, Int.reduceLT, Int.reduceLE, Int.reduceAdd, Int.reduceSub, Int.reduceNeg, Int.reduceGT, Int.reduceGE, Int.reduceNe, ne_eq, not_false_eq_true]
      have e : decide ((c.length : Int) > (a.length : Int)) = decide (c.length > a.length) := by rw [decide_eq_decide]; omega
      rw [e]
      cases decide (c.length > a.length)
      · simp only [go_sem, Nat.reduceAdd, Nat.reduceLeDiff, Nat.reduceSub, Nat.reduceMul, Nat.reduceEqDiff, Int.reduceEq, Int.reduceLT, Int.reduceLE, Int.reduceAdd, Int.reduceSub, Int.reduceNeg, Int.reduceGT, Int.reduceGE, Int.reduceNe, ne_eq, not_false_eq_true]
        exact g2
      · simp only [go_sem, Nat.reduceAdd, Nat.reduceLeDiff, Nat.reduceSub, Nat.reduceMul, Nat.reduceEqDiff, Int.reduceEq, Int.reduceLT, Int.reduceLE, Int.reduceAdd, Int.reduceSub, Int.reduceNeg, Int.reduceGT, Int.reduceGE, Int.reduceNe, ne_eq, not_false_eq_true]
        exact g1
theorem ref04_sign_spec (pre t : Str) (hl : (pre ++ t).length < 2^60) (s : St) : cw (.f F_ref04_sign) [.str (pre ++ t), .int .i64 (pre.length : Int)] s = some (.ret (.val (.str (signA t))), s) := by
  rw [ref04_sign_eq, ← signR_eq]
  generalize hL : pre ++ t = L at hl
  simp only [go_sem, Nat.reduceAdd, Nat.reduceLeDiff, Nat.reduceSub, Nat.reduceMul, Nat.reduceEqDiff, Int.reduceEq, Int.reduceLT, Int.reduceLE, Int.reduceAdd, Int.reduceSub, Int.reduceNeg, Int.reduceGT, Int.reduceGE, Int.reduceNe, ne_eq, not_false_eq_true, ref04_Signs_spec]
  rw [← hL] at hl ⊢
  exact rsign_loop pre t hl lsigns [] [] s 0 rfl rfl (by decide)
end Go.Proofs.YtadhckhgemongaaDoor

namespace Go.Proofs.YtadhckhgemongaaDoor
open Go Go.Am
set_option linter.unusedVariables false
set_option maxRecDepth 4000
theorem run_loop (L : Str) (hl : L.length < 2^60) (at' : Nat) : ∀ (suf pre : Str) (s : St) (i : Nat), pre ++ suf = L → i = pre.length → at' < i →
    ref04_Run_l0 (.val (.str L)) (.val (.int .i64 (at' : Int))) (.val (.int .i64 (i : Int))) s = some (.ret (.val (.int .i64 ((i + (suf.takeWhile amoC).length : Nat) : Int))), s) := by
  intro suf
  induction suf with
  | nil =>
    intro pre s i h hi ha
    rw [List.append_nil] at h
    subst h hi
    rw [ref04_Run_l0_eq]
    simp only [go_sem, Nat.reduceAdd, Nat.reduceLeDiff, Nat.reduceSub, Nat.reduceMul, Nat.reduceEqDiff, Int.reduceEq, Int.reduceLT, Int.reduceLE, Int.reduceAdd, Int.reduceSub, Int.reduceNeg, Int.reduceGT, Int.reduceGE, Int.reduceNe, ne_eq, not_false_eq_true, Int.lt_irrefl, List.takeWhile_nil]
    rfl
  | cons c suf ih =>
    intro pre s i h hi ha
    subst hi
    have hc : L[pre.length]? = some c := by rw [← h]; simp
    have hlt : pre.length < L.length := by rw [← h]; simp
    have := ih (pre ++ [c]) s (pre.length + 1) (by simp [h]) (by simp) (by omega)
    rw [ref04_Run_l0_eq]
    have hb : decide ((pre.length : Int) < (L.length : Int)) = true := by simpa using hlt
    have hg : decide ((pre.length : Int) > (at' : Int)) = true := by simp; omega
    simp only [go_sem, Nat.reduceAdd, Nat.reduceLeDiff, Nat.reduceSub, Nat.reduceMul, Nat.reduceEqDiff, Int.reduceEq, Int.reduceLT, Int.reduceLE, Int.reduceAdd, Int.reduceSub, Int.reduceNeg, Int.reduceGT, Int.reduceGE, Int.reduceNe, ne_eq, not_false_eq_true, hb, hg, indexS_str T_string_k hc, ref04_small_spec, ref04_great_spec, ref04_digit_spec]
    rw [wrap64 (by omega) (by omega)]
    have e : (pre.length : Int) + 1 = ((pre.length + 1 : Nat) : Int) := by omega
    rw [e, this]
    have ha : amoC c = (smaB c.toNat || greB c.toNat || decide ((c.toNat : Int) = 95) || (digB c.toNat || decide ((c.toNat : Int) = 39))) := by
      unfold amoC amoB firB smaB greB
      simp only [Bool.or_assoc]
    rw [List.takeWhile_cons, ha]
    cases smaB c.toNat <;> cases greB c.toNat <;> cases decide ((c.toNat : Int) = 95) <;> cases digB c.toNat <;> cases decide ((c.toNat : Int) = 39) <;> simp only [go_sem, Nat.reduceAdd, Nat.reduceLeDiff, Nat.reduceSub, Nat.reduceMul, Nat.reduceEqDiff, Int.reduceEq, Int.reduceLT, Int.reduceLE, Int.reduceAdd, Int.reduceSub, Int.reduceNeg, Int.reduceGT, Int.reduceGE, Int.reduceNe, ne_eq, not_false_eq_true] <;> first | rfl | (simp; omega) | simp
theorem ref04_Run_spec (pre suf : Str) (hl : (pre ++ suf).length < 2^60) (i : Nat) (hi : i = pre.length) (s : St) : cw (.f F_ref04_Run) [.str (pre ++ suf), .int .i64 (i : Int)] s = some (.ret (.val (.int .i64 ((i + runLen suf : Nat) : Int))), s) := by
  subst hi
  rw [ref04_Run_eq]
  cases suf with
  | nil =>
    rw [ref04_Run_l0_eq]
    simp only [go_sem, Nat.reduceAdd, Nat.reduceLeDiff, Nat.reduceSub, Nat.reduceMul, Nat.reduceEqDiff, Int.reduceEq, Int.reduceLT, Int.reduceLE, Int.reduceAdd, Int.reduceSub, Int.reduceNeg, Int.reduceGT, Int.reduceGE, Int.reduceNe, ne_eq, not_false_eq_true, Int.lt_irrefl]
    rfl
  | cons c suf =>
    have hc : (pre ++ c :: suf)[pre.length]? = some c := by simp
    have := run_loop (pre ++ c :: suf) hl pre.length suf (pre ++ [c]) s (pre.length + 1) (by simp) (by simp) (by omega)
    generalize hLe : pre ++ c :: suf = L at hl hc this ⊢
    have hlt : pre.length < L.length := by rw [← hLe]; simp
    rw [ref04_Run_l0_eq]
    have hb : decide ((pre.length : Int) < (L.length : Int)) = true := by simpa using hlt
    have hg : decide ((pre.length : Int) > (pre.length : Int)) = false := by simp
    simp only [go_sem, Nat.reduceAdd, Nat.reduceLeDiff, Nat.reduceSub, Nat.reduceMul, Nat.reduceEqDiff, Int.reduceEq, Int.reduceLT, Int.reduceLE, Int.reduceAdd, Int.reduceSub, Int.reduceNeg, Int.reduceGT, Int.reduceGE, Int.reduceNe, ne_eq, not_false_eq_true, hb, hg, indexS_str T_string_k hc, ref04_small_spec, ref04_great_spec, ref04_digit_spec]
    rw [wrap64 (by omega) (by omega)]
    have e : (pre.length : Int) + 1 = ((pre.length + 1 : Nat) : Int) := by omega
    rw [e, this]
    have hf : firC c = (smaB c.toNat || greB c.toNat || decide ((c.toNat : Int) = 95)) := rfl
    have ha : firC c = true → amoC c = true := fun h => by unfold amoC amoB; unfold firC at h; rw [h]; rfl
    unfold runLen
    rw [show (c :: suf).headD 0 = c from rfl, hf] at *
    revert ha
    cases smaB c.toNat <;> cases greB c.toNat <;> cases decide ((c.toNat : Int) = 95) <;> simp only [go_sem, Nat.reduceAdd, Nat.reduceLeDiff, Nat.reduceSub, Nat.reduceMul, Nat.reduceEqDiff, Int.reduceEq, Int.reduceLT, Int.reduceLE, Int.reduceAdd, Int.reduceSub, Int.reduceNeg, Int.reduceGT, Int.reduceGE, Int.reduceNe, ne_eq, not_false_eq_true] <;> intro ha <;> first | rfl | (rw [List.takeWhile_cons, ha trivial]; simp; omega) | (rw [List.takeWhile_cons, ha trivial]; simp)
theorem ref04_name_spec (pre suf : Str) (k : Nat) (hk : 0 < k) (hk2 : k ≤ suf.length) (hl : (pre ++ suf).length < 2^60) (j : Nat) (hj : j = pre.length + k) (s : St) :
    cw (.f F_ref04_name) [.str (pre ++ suf), .int .i64 (pre.length : Int), .int .i64 (j : Int)] s = some (.ret (.val (LTok.mk (namedA (suf.take k)) pre.length (suf.take k) 0).enc), s) := by
  subst hj
  rw [ref04_name_eq]
  have hs := sliceS_mid (t := C.ti T_string) T_string_k (l := pre ++ suf) (i := pre.length) (j := pre.length + k) (by omega) (by simp; omega)
  rw [mid_app] at hs
  have hidx : (pre ++ suf)[pre.length]? = some ((suf.take k).headD 0) := by
    cases suf with
    | nil => simp at hk2; omega
    | cons c r => cases k with
      | zero => omega
      | succ k => simp
  generalize pre ++ suf = L at hl hs hidx ⊢
  generalize suf.take k = t at hs hidx ⊢
  simp only [go_sem, Nat.reduceAdd, Nat.reduceLeDiff, Nat.reduceSub, Nat.reduceMul, Nat.reduceEqDiff, Int.reduceEq, Int.reduceLT, Int.reduceLE, Int.reduceAdd, Int.reduceSub, Int.reduceNeg, Int.reduceGT, Int.reduceGE, Int.reduceNe, ne_eq, not_false_eq_true, hs, ref04_Words_spec, ref04_in_spec t lwords (by decide), indexS_str T_string_k hidx, ref04_great_spec]
  unfold namedA
  cases hasL lwords t
  · simp only [go_sem, Nat.reduceAdd, Nat.reduceLeDiff, Nat.reduceSub, Nat.reduceMul, Nat.reduceEqDiff, Int.reduceEq, Int.reduceLT, Int.reduceLE, Int.reduceAdd, Int.reduceSub, Int.reduceNeg, Int.reduceGT, Int.reduceGE, Int.reduceNe, ne_eq, not_false_eq_true]
    have hg : greB ((t.headD 0).toNat : Int) = (decide (((t.headD 0).toNat : Int) ≥ 65) && decide (((t.headD 0).toNat : Int) ≤ 90)) := rfl
    rw [← hg]
    cases greB ((t.headD 0).toNat : Int)
    · simp only [go_sem, Nat.reduceAdd, Nat.reduceLeDiff, Nat.reduceSub, Nat.reduceMul, Nat.reduceEqDiff, Int.reduceEq, Int.reduceLT, Int.reduceLE, Int.reduceAdd, Int.reduceSub, Int.reduceNeg, Int.reduceGT, Int.reduceGE, Int.reduceNe, ne_eq, not_false_eq_true]
      cases h1 : decide (t = [116, 114, 117, 101])
      · simp only [go_sem, Nat.reduceAdd, Nat.reduceLeDiff, Nat.reduceSub, Nat.reduceMul, Nat.reduceEqDiff, Int.reduceEq, Int.reduceLT, Int.reduceLE, Int.reduceAdd, Int.reduceSub, Int.reduceNeg, Int.reduceGT, Int.reduceGE, Int.reduceNe, ne_eq, not_false_eq_true]
        cases h2 : decide (t = [102, 97, 108, 115, 101])
        · simp only [go_sem, Nat.reduceAdd, Nat.reduceLeDiff, Nat.reduceSub, Nat.reduceMul, Nat.reduceEqDiff, Int.reduceEq, Int.reduceLT, Int.reduceLE, Int.reduceAdd, Int.reduceSub, Int.reduceNeg, Int.reduceGT, Int.reduceGE, Int.reduceNe, ne_eq, not_false_eq_true]; rfl
        · simp only [go_sem, Nat.reduceAdd, Nat.reduceLeDiff, Nat.reduceSub, Nat.reduceMul, Nat.reduceEqDiff, Int.reduceEq, Int.reduceLT, Int.reduceLE, Int.reduceAdd, Int.reduceSub, Int.reduceNeg, Int.reduceGT, Int.reduceGE, Int.reduceNe, ne_eq, not_false_eq_true]; rfl
      · simp only [go_sem, Nat.reduceAdd, Nat.reduceLeDiff, Nat.reduceSub, Nat.reduceMul, Nat.reduceEqDiff, Int.reduceEq, Int.reduceLT, Int.reduceLE, Int.reduceAdd, Int.reduceSub, Int.reduceNeg, Int.reduceGT, Int.reduceGE, Int.reduceNe, ne_eq, not_false_eq_true]; rfl
    · simp only [go_sem, Nat.reduceAdd, Nat.reduceLeDiff, Nat.reduceSub, Nat.reduceMul, Nat.reduceEqDiff, Int.reduceEq, Int.reduceLT, Int.reduceLE, Int.reduceAdd, Int.reduceSub, Int.reduceNeg, Int.reduceGT, Int.reduceGE, Int.reduceNe, ne_eq, not_false_eq_true]
      rfl
  · simp only [go_sem, Nat.reduceAdd, Nat.reduceLeDiff, Nat.reduceSub, Nat.reduceMul, Nat.reduceEqDiff, Int.reduceEq, Int.reduceLT, Int.reduceLE, Int.reduceAdd, Int.reduceSub, Int.reduceNeg, Int.reduceGT, Int.reduceGE, Int.reduceNe, ne_eq, not_false_eq_true]
    rfl
end Go.Proofs.YtadhckhgemongaaDoor

namespace Go.Proofs.YtadhckhgemongaaDoor
open Go Go.Am
set_option linter.unusedVariables false
set_option maxRecDepth 4000
theorem numS_append : ∀ (a b : Str) (n : Int), numS n (a ++ b) = numS (numS n a) b
  | [], _, _ => rfl
  | c :: a, b, n => by simp only [List.cons_append, numS]; exact numS_append a b _
theorem numS_bounds : ∀ (r : Str) (n : Int), r.all digC = true → 0 ≤ n → n ≤ 1099511627776 → 0 ≤ numS n r ∧ numS n r ≤ 1099511627776
  | [], n, _, h0, h1 => ⟨h0, h1⟩
  | c :: r, n, h, h0, h1 => by
    simp only [List.all_cons, Bool.and_eq_true] at h
    have hb := dig_bounds h.1
    exact numS_bounds r _ h.2 (by split <;> omega) (by split <;> omega)
theorem min2_int (a b : Int) : min2 (.val (.int .i64 a)) (.val (.int .i64 b)) = some (.val (.int .i64 (if b < a then b else a))) := rfl
theorem rnumber_exit (pre a r : Str) (m : Bool) (hl : (pre ++ (a ++ r)).length < 2^60) (h0 : a ≠ []) (z : List Slot) (hz : z.length = 4) (hend : r = [] ∨ ∃ c r', r = c :: r' ∧ digC c = false) (n : Int) (i : Nat) (hi : i = pre.length + a.length) (hn : n = numS 0 a) (s : St) :
    ref04_number_l0 (.val (.str (pre ++ (a ++ r)))) (.val (.int .i64 (pre.length : Int))) (.val (.bool m)) z (.val (.int .i64 (i : Int))) (.val (.int .i64 n)) s =
      some (.ret (.val (.tup [(LTok.mk 1 pre.length a n).enc, .int .i64 (bif badR a m then 13 else 0)])), s) := by
  obtain ⟨z0, z1, z2, z3, rfl⟩ : ∃ a b c d, z = [a, b, c, d] := by
    match z, hz with
    | [a, b, c, d], _ => exact ⟨a, b, c, d, rfl⟩
  subst hi
  have hL : (pre ++ (a ++ r)).length = pre.length + a.length + r.length := by simp; omega
  have hs := sliceS_mid (t := C.ti T_string) T_string_k (l := pre ++ (a ++ r)) (i := pre.length) (j := pre.length + a.length) (by omega) (by omega)
  rw [mid_app, List.take_left] at hs
  have hidx : (pre ++ (a ++ r))[pre.length]? = some (a.headD 0) := by
    cases a with
    | nil => exact absurd rfl h0
    | cons c a => simp
  have hc : ∀ c r', r = c :: r' → (pre ++ (a ++ r))[pre.length + a.length]? = some c := fun c r' e => by
    subst e
    rw [← List.append_assoc, ← List.length_append]; simp
  have hz : decide (((a.headD 0).toNat : Int) = 48) = decide (a.headD 0 = 48) := toNat_eq _ 48 (by decide)
  have hlen : decide (((pre.length + a.length : Nat) : Int) - (pre.length : Int) > 1) = decide ((a.length : Int) > 1) := by rw [decide_eq_decide]; omega
  generalize pre ++ (a ++ r) = L at hl hL hs hidx hc ⊢
  unfold badR
  rw [← hn]
  rw [ref04_number_l0_eq]
  rcases hend with rfl | ⟨c, r', rfl, hd⟩
  case' inl =>
    have hb : decide (((pre.length + a.length : Nat) : Int) < (L.length : Int)) = false := by simp at hL; simp; omega
    simp only [go_sem, Nat.reduceAdd, Nat.reduceLeDiff, Nat.reduceSub, Nat.reduceMul, Nat.reduceEqDiff, Int.reduceEq, Int.reduceLT, Int.reduceLE, Int.reduceAdd, Int.reduceSub, Int.reduceNeg, Int.reduceGT, Int.reduceGE, Int.reduceNe, ne_eq, not_false_eq_true, hb, hs]
  case' inr =>
    have hb : decide (((pre.length + a.length : Nat) : Int) < (L.length : Int)) = true := by simp at hL; simp; omega
    have hd : digB (c.toNat : Int) = false := hd
    simp only [go_sem, Nat.reduceAdd, Nat.reduceLeDiff, Nat.reduceSub, Nat.reduceMul, Nat.reduceEqDiff, Int.reduceEq, Int.reduceLT, Int.reduceLE, Int.reduceAdd, Int.reduceSub, Int.reduceNeg, Int.reduceGT, Int.reduceGE, Int.reduceNe, ne_eq, not_false_eq_true, hb, indexS_str T_string_k (hc c r' rfl), ref04_digit_spec, hd, hs]
  all_goals
    rw [wrap64 (by omega) (by omega), hlen]
    cases h1 : decide ((a.length : Int) > 1)
    case' false =>
      simp only [go_sem, Nat.reduceAdd, Nat.reduceLeDiff, Nat.reduceSub, Nat.reduceMul, Nat.reduceEqDiff, Int.reduceEq, Int.reduceLT, Int.reduceLE, Int.reduceAdd, Int.reduceSub, Int.reduceNeg, Int.reduceGT, Int.reduceGE, Int.reduceNe, ne_eq, not_false_eq_true]
    case' true =>
      simp only [go_sem, Nat.reduceAdd, Nat.reduceLeDiff, Nat.reduceSub, Nat.reduceMul, Nat.reduceEqDiff, Int.reduceEq, Int.reduceLT, Int.reduceLE, Int.reduceAdd, Int.reduceSub, Int.reduceNeg, Int.reduceGT, Int.reduceGE, Int.reduceNe, ne_eq, not_false_eq_true, indexS_str T_string_k hidx, hz]
      cases decide (a.headD 0 = 48)
      case' true => simp only [go_sem, Nat.reduceAdd, Nat.reduceLeDiff, Nat.reduceSub, Nat.reduceMul, Nat.reduceEqDiff, Int.reduceEq, Int.reduceLT, Int.reduceLE, Int.reduceAdd, Int.reduceSub, Int.reduceNeg, Int.reduceGT, Int.reduceGE, Int.reduceNe, ne_eq, not_false_eq_true]; rfl
      case' false => simp only [go_sem, Nat.reduceAdd, Nat.reduceLeDiff, Nat.reduceSub, Nat.reduceMul, Nat.reduceEqDiff, Int.reduceEq, Int.reduceLT, Int.reduceLE, Int.reduceAdd, Int.reduceSub, Int.reduceNeg, Int.reduceGT, Int.reduceGE, Int.reduceNe, ne_eq, not_false_eq_true]
    all_goals
      cases decide (n > 1073741824)
      · simp only [go_sem, Nat.reduceAdd, Nat.reduceLeDiff, Nat.reduceSub, Nat.reduceMul, Nat.reduceEqDiff, Int.reduceEq, Int.reduceLT, Int.reduceLE, Int.reduceAdd, Int.reduceSub, Int.reduceNeg, Int.reduceGT, Int.reduceGE, Int.reduceNe, ne_eq, not_false_eq_true]
        cases decide (n = 1073741824)
        · simp only [go_sem, Nat.reduceAdd, Nat.reduceLeDiff, Nat.reduceSub, Nat.reduceMul, Nat.reduceEqDiff, Int.reduceEq, Int.reduceLT, Int.reduceLE, Int.reduceAdd, Int.reduceSub, Int.reduceNeg, Int.reduceGT, Int.reduceGE, Int.reduceNe, ne_eq, not_false_eq_true]; rfl
        · simp only [go_sem, Nat.reduceAdd, Nat.reduceLeDiff, Nat.reduceSub, Nat.reduceMul, Nat.reduceEqDiff, Int.reduceEq, Int.reduceLT, Int.reduceLE, Int.reduceAdd, Int.reduceSub, Int.reduceNeg, Int.reduceGT, Int.reduceGE, Int.reduceNe, ne_eq, not_false_eq_true]
          cases m
          · simp only [go_sem, Nat.reduceAdd, Nat.reduceLeDiff, Nat.reduceSub, Nat.reduceMul, Nat.reduceEqDiff, Int.reduceEq, Int.reduceLT, Int.reduceLE, Int.reduceAdd, Int.reduceSub, Int.reduceNeg, Int.reduceGT, Int.reduceGE, Int.reduceNe, ne_eq, not_false_eq_true]; rfl
          · simp only [go_sem, Nat.reduceAdd, Nat.reduceLeDiff, Nat.reduceSub, Nat.reduceMul, Nat.reduceEqDiff, Int.reduceEq, Int.reduceLT, Int.reduceLE, Int.reduceAdd, Int.reduceSub, Int.reduceNeg, Int.reduceGT, Int.reduceGE, Int.reduceNe, ne_eq, not_false_eq_true]; rfl
      · simp only [go_sem, Nat.reduceAdd, Nat.reduceLeDiff, Nat.reduceSub, Nat.reduceMul, Nat.reduceEqDiff, Int.reduceEq, Int.reduceLT, Int.reduceLE, Int.reduceAdd, Int.reduceSub, Int.reduceNeg, Int.reduceGT, Int.reduceGE, Int.reduceNe, ne_eq, not_false_eq_true]; rfl
theorem rnumber_loop (pre suf0 : Str) (m : Bool) (hl : (pre ++ suf0).length < 2^60) (hT : suf0.takeWhile digC ≠ []) (z : List Slot) (hz : z.length = 4) : ∀ (suf a : Str) (s : St) (i : Nat), a ++ suf = suf0 → i = pre.length + a.length → a.all digC = true → suf0.takeWhile digC = a ++ suf.takeWhile digC →
    ref04_number_l0 (.val (.str (pre ++ suf0))) (.val (.int .i64 (pre.length : Int))) (.val (.bool m)) z (.val (.int .i64 (i : Int))) (.val (.int .i64 (numS 0 a))) s =
      some (.ret (.val (.tup [(LTok.mk 1 pre.length (suf0.takeWhile digC) (numS 0 (suf0.takeWhile digC))).enc, .int .i64 (bif badR (suf0.takeWhile digC) m then 13 else 0)])), s) := by
  obtain ⟨z0, z1, z2, z3, rfl⟩ : ∃ a b c d, z = [a, b, c, d] := by
    match z, hz with
    | [a, b, c, d], _ => exact ⟨a, b, c, d, rfl⟩
  intro suf
  induction suf with
  | nil =>
    intro a s i h hi ha ht
    simp only [List.takeWhile_nil, List.append_nil] at ht h
    subst h
    rw [ht]
    have := rnumber_exit pre a [] m (by rw [List.append_nil]; exact hl) (by rw [← ht]; exact hT) [z0, z1, z2, z3] rfl (.inl rfl) (numS 0 a) i hi rfl s
    rw [List.append_nil] at this
    exact this
  | cons c suf ih =>
    intro a s i h hi ha ht
    subst hi
    have hL : (pre ++ suf0).length = pre.length + a.length + (suf.length + 1) := by rw [← h]; simp; omega
    have hc : (pre ++ suf0)[pre.length + a.length]? = some c := by rw [← h, ← List.append_assoc, ← List.length_append]; simp
    obtain ⟨b1, b2⟩ := numS_bounds a 0 ha (by decide) (by decide)
    cases hd : digC c
    · have ht' : suf0.takeWhile digC = a := by rw [ht, List.takeWhile_cons, hd]; simp
      rw [ht']
      have := rnumber_exit pre a (c :: suf) m (by rw [h]; exact hl) (by rw [← ht']; exact hT) [z0, z1, z2, z3] rfl (.inr ⟨c, suf, rfl, hd⟩) (numS 0 a) (pre.length + a.length) rfl rfl s
      rw [h] at this
      exact this
    · have hcb := dig_bounds hd
      have := ih (a ++ [c]) s (pre.length + a.length + 1) (by simp [h]) (by simp; omega) (by rw [List.all_append, ha]; simp [hd]) (by rw [ht, List.takeWhile_cons, hd]; simp)
      rw [numS_append] at this
      generalize hLe : pre ++ suf0 = L at hl hL hc this ⊢
      rw [ref04_number_l0_eq]
      have hb : decide (((pre.length + a.length : Nat) : Int) < (L.length : Int)) = true := by simp; omega
      simp only [go_sem, Nat.reduceAdd, Nat.reduceLeDiff, Nat.reduceSub, Nat.reduceMul, Nat.reduceEqDiff, Int.reduceEq, Int.reduceLT, Int.reduceLE, Int.reduceAdd, Int.reduceSub, Int.reduceNeg, Int.reduceGT, Int.reduceGE, Int.reduceNe, ne_eq, not_false_eq_true, hb, indexS_str T_string_k hc, ref04_digit_spec]
      rw [show digB (c.toNat : Int) = digC c from rfl, hd, convS_u8]
      simp only [go_sem, Nat.reduceAdd, Nat.reduceLeDiff, Nat.reduceSub, Nat.reduceMul, Nat.reduceEqDiff, Int.reduceEq, Int.reduceLT, Int.reduceLE, Int.reduceAdd, Int.reduceSub, Int.reduceNeg, Int.reduceGT, Int.reduceGE, Int.reduceNe, ne_eq, not_false_eq_true]
      rw [wrap64 (n := 10 * numS 0 a) (by omega) (by omega), wrap64 (n := (c.toNat : Int)) (by omega) (by omega), wrap64 (n := 10 * numS 0 a + _) (by omega) (by omega), wrap64 (n := _ - 48) (by omega) (by omega), min2_int, wrap64 (n := ((pre.length + a.length : Nat) : Int) + 1) (by omega) (by omega)]
      simp only [go_sem, Nat.reduceAdd, Nat.reduceLeDiff, Nat.reduceSub, Nat.reduceMul, Nat.reduceEqDiff, Int.reduceEq, Int.reduceLT, Int.reduceLE, Int.reduceAdd, Int.reduceSub, Int.reduceNeg, Int.reduceGT, Int.reduceGE, Int.reduceNe, ne_eq, not_false_eq_true]
      exact this
theorem ref04_number_spec (pre suf : Str) (m : Bool) (hl : (pre ++ suf).length < 2^60) (hd : digC (suf.headD 0) = true) (s : St) : cw (.f F_ref04_number) [.str (pre ++ suf), .int .i64 (pre.length : Int), .bool m] s =
    some (.ret (.val (.tup [(LTok.mk 1 pre.length (suf.takeWhile digC) (numS 0 (suf.takeWhile digC))).enc, .int .i64 (bif badR (suf.takeWhile digC) m then 13 else 0)])), s) := by
  rw [ref04_number_eq]
  have hT : suf.takeWhile digC ≠ [] := by
    cases suf with
    | nil => cases hd
    | cons c r =>
      have hd : digC c = true := hd
      simp [List.takeWhile_cons, hd]
  exact rnumber_loop pre suf m hl hT _ (by simp only [T_Tok_zero]; rfl) suf [] s pre.length rfl (by simp) rfl rfl
end Go.Proofs.YtadhckhgemongaaDoor

namespace Go.Proofs.YtadhckhgemongaaDoor
open Go Go.Am
set_option linter.unusedVariables false
set_option maxRecDepth 4000
theorem runLen_le (s : Str) : runLen s ≤ s.length := by
  unfold runLen
  cases firC (s.headD 0)
  · exact Nat.zero_le _
  · exact takeWhile_length_le _ _
theorem runLen_take (s : Str) (h : firC (s.headD 0) = true) : s.take (runLen s) = s.takeWhile amoC := by
  unfold runLen
  rw [h]
  exact (takeWhile_le amoC s).symm
theorem runLen_pos {s : Str} (h0 : s ≠ []) (h : firC (s.headD 0) = true) : 0 < runLen s := by
  cases s with
  | nil => exact absurd rfl h0
  | cons c r =>
    have h' : firC c = true := h
    have : amoC c = true := by unfold amoC amoB; unfold firC at h'; rw [h']; rfl
    unfold runLen
    rw [h, cond_true, List.takeWhile_cons, this]
    simp
theorem runLen_zero {s : Str} (h : firC (s.headD 0) = false) : runLen s = 0 := by unfold runLen; rw [h]; rfl
theorem run_take (c : UInt8) (r : Str) : (c :: r).take (runLen (c :: r)) = bif firC c then (c :: r).takeWhile amoC else [] := by
  cases hf : firC c
  · rw [runLen_zero (s := c :: r) hf]; rfl
  · exact runLen_take (c :: r) hf
theorem run_pos (c : UInt8) (r : Str) (n : Nat) : decide (((n + runLen (c :: r) : Nat) : Int) > (n : Int)) = firC c := by
  cases hf : firC c
  · rw [runLen_zero (s := c :: r) hf]; simp
  · have := runLen_pos (s := c :: r) (by simp) hf
    simp; omega
theorem run_pos2 (r : Str) (n : Nat) : decide (((n + runLen r : Nat) : Int) > (n : Int)) = firC (r.headD 0) := by
  cases r with
  | nil => simp [runLen]; rfl
  | cons a r => exact run_pos a r n
theorem one_lt (c : UInt8) (r : Str) : (decide (1 < (c :: r).length) && firC (r.headD 0)) = firC (r.headD 0) := by
  cases r with
  | nil => rfl
  | cons a r => simp
theorem run_take2 (c : UInt8) (r : Str) (hf : firC (r.headD 0) = true) : (c :: r).take (1 + runLen r) = c :: r.takeWhile amoC := by
  rw [Nat.add_comm 1, List.take_succ_cons, runLen_take r hf]
theorem run_len (c : UInt8) (r : Str) (hf : firC c = true) : ((c :: r).takeWhile amoC).length = runLen (c :: r) := by
  unfold runLen; rw [show (c :: r).headD 0 = c from rfl, hf]; rfl
theorem run_len2 (r : Str) (hf : firC (r.headD 0) = true) : (r.takeWhile amoC).length = runLen r := by
  unfold runLen; rw [hf]; rfl
theorem ref04_One_spec (pre suf : Str) (m : Bool) (h0 : suf ≠ []) (hl : (pre ++ suf).length < 2^60) (s : St) :
    ∃ tk : LTok, cw (.f F_ref04_One) [.str (pre ++ suf), .int .i64 (pre.length : Int), .bool m] s = some (.ret (.val (.tup [tk.enc, .int .i64 (oneA suf m).1])), s) ∧ ((oneA suf m).1 = 0 → tk = { (oneA suf m).2 with pos := (pre.length : Int) }) := by
  obtain ⟨c, r, rfl⟩ := List.exists_cons_of_ne_nil h0
  have hL : (pre ++ c :: r).length = pre.length + (r.length + 1) := by simp
  have hc : (pre ++ c :: r)[pre.length]? = some c := by simp
  have hnum := ref04_number_spec pre (c :: r) m hl
  have hrun := ref04_Run_spec pre (c :: r) hl pre.length rfl s
  have hrun2 := ref04_Run_spec (pre ++ [c]) r (by simpa using hl) (pre.length + 1) (by simp) s
  rw [show pre ++ [c] ++ r = pre ++ c :: r by simp] at hrun2
  have hsign := ref04_sign_spec pre (c :: r) hl s
  have hname := fun k h1 h2 => ref04_name_spec pre (c :: r) k h1 h2 hl (pre.length + k) rfl s
  have hsl := fun (k : Nat) (hk : k ≤ r.length + 1) => sliceS_mid (t := C.ti T_string) T_string_k (l := pre ++ c :: r) (i := pre.length) (j := pre.length + k) (by omega) (by omega)
  simp only [mid_app] at hsl
  have hr1 := runLen_le (c :: r)
  have hr2 := runLen_le r
  have hbad := fun h1 h2 => badR_eq ((c :: r).takeWhile digC) m h1 h2
  have hta : (c :: r).takeWhile digC = (c :: r).takeWhile digC := rfl
  generalize pre ++ c :: r = L at hl hL hc hnum hrun hrun2 hsign hname hsl ⊢
  rw [ref04_One_eq]
  unfold oneA
  rw [show (c :: r).headD 0 = c from rfl] at *
  rw [show ((c :: r).drop 1).headD 0 = r.headD 0 from rfl, Bool.and_assoc, one_lt]
  simp only [go_sem, Nat.reduceAdd, Nat.reduceLeDiff, Nat.reduceSub, Nat.reduceMul, Nat.reduceEqDiff, Int.reduceEq, Int.reduceLT, Int.reduceLE, Int.reduceAdd, Int.reduceSub, Int.reduceNeg, Int.reduceGT, Int.reduceGE, Int.reduceNe, ne_eq, not_false_eq_true, indexS_str T_string_k hc, ref04_digit_spec]
  rw [show digB (c.toNat : Int) = digC c from rfl]
  cases hd : digC c
  · simp only [go_sem, Nat.reduceAdd, Nat.reduceLeDiff, Nat.reduceSub, Nat.reduceMul, Nat.reduceEqDiff, Int.reduceEq, Int.reduceLT, Int.reduceLE, Int.reduceAdd, Int.reduceSub, Int.reduceNeg, Int.reduceGT, Int.reduceGE, Int.reduceNe, ne_eq, not_false_eq_true, hrun]
    have h39 : decide ((c.toNat : Int) = 39) = decide (c = 39) := toNat_eq c 39 (by decide)
    have e1 : (pre.length : Int) + 1 = ((pre.length + 1 : Nat) : Int) := by omega
    have hs1 := hsl (runLen (c :: r)) (by simpa using hr1)
    rw [run_take] at hs1
    simp only [List.length_cons] at hr1
    rw [run_pos, h39]
    have hs2 := hsl (1 + runLen r) (by omega)
    have hw : IntKind.i64.wrap ((pre.length : Int) + 1) = ((pre.length + 1 : Nat) : Int) := by rw [wrap64 (by omega) (by omega), e1]
    cases hf : firC c
    · simp only [go_sem, Nat.reduceAdd, Nat.reduceLeDiff, Nat.reduceSub, Nat.reduceMul, Nat.reduceEqDiff, Int.reduceEq, Int.reduceLT, Int.reduceLE, Int.reduceAdd, Int.reduceSub, Int.reduceNeg, Int.reduceGT, Int.reduceGE, Int.reduceNe, ne_eq, not_false_eq_true]
      rw [hw]
      cases h3 : decide (c = 39)
      · simp only [go_sem, Nat.reduceAdd, Nat.reduceLeDiff, Nat.reduceSub, Nat.reduceMul, Nat.reduceEqDiff, Int.reduceEq, Int.reduceLT, Int.reduceLE, Int.reduceAdd, Int.reduceSub, Int.reduceNeg, Int.reduceGT, Int.reduceGE, Int.reduceNe, ne_eq, not_false_eq_true, hrun2, hsign]
        unfold restA
        cases decide (signA (c :: r) = [])
        · simp only [go_sem, Nat.reduceAdd, Nat.reduceLeDiff, Nat.reduceSub, Nat.reduceMul, Nat.reduceEqDiff, Int.reduceEq, Int.reduceLT, Int.reduceLE, Int.reduceAdd, Int.reduceSub, Int.reduceNeg, Int.reduceGT, Int.reduceGE, Int.reduceNe, ne_eq, not_false_eq_true]
          exact ⟨LTok.mk 6 pre.length (signA (c :: r)) 0, rfl, fun _ => rfl⟩
        · simp only [go_sem, Nat.reduceAdd, Nat.reduceLeDiff, Nat.reduceSub, Nat.reduceMul, Nat.reduceEqDiff, Int.reduceEq, Int.reduceLT, Int.reduceLE, Int.reduceAdd, Int.reduceSub, Int.reduceNeg, Int.reduceGT, Int.reduceGE, Int.reduceNe, ne_eq, not_false_eq_true]
          exact ⟨LTok.zero, rfl, fun h => by cases h⟩
      · simp only [go_sem, Nat.reduceAdd, Nat.reduceLeDiff, Nat.reduceSub, Nat.reduceMul, Nat.reduceEqDiff, Int.reduceEq, Int.reduceLT, Int.reduceLE, Int.reduceAdd, Int.reduceSub, Int.reduceNeg, Int.reduceGT, Int.reduceGE, Int.reduceNe, ne_eq, not_false_eq_true, hrun2]
        rw [run_pos2]
        cases h4 : firC (r.headD 0)
        · simp only [go_sem, Nat.reduceAdd, Nat.reduceLeDiff, Nat.reduceSub, Nat.reduceMul, Nat.reduceEqDiff, Int.reduceEq, Int.reduceLT, Int.reduceLE, Int.reduceAdd, Int.reduceSub, Int.reduceNeg, Int.reduceGT, Int.reduceGE, Int.reduceNe, ne_eq, not_false_eq_true, hsign]
          unfold restA
          cases decide (signA (c :: r) = [])
          · simp only [go_sem, Nat.reduceAdd, Nat.reduceLeDiff, Nat.reduceSub, Nat.reduceMul, Nat.reduceEqDiff, Int.reduceEq, Int.reduceLT, Int.reduceLE, Int.reduceAdd, Int.reduceSub, Int.reduceNeg, Int.reduceGT, Int.reduceGE, Int.reduceNe, ne_eq, not_false_eq_true]
            exact ⟨LTok.mk 6 pre.length (signA (c :: r)) 0, rfl, fun _ => rfl⟩
          · simp only [go_sem, Nat.reduceAdd, Nat.reduceLeDiff, Nat.reduceSub, Nat.reduceMul, Nat.reduceEqDiff, Int.reduceEq, Int.reduceLT, Int.reduceLE, Int.reduceAdd, Int.reduceSub, Int.reduceNeg, Int.reduceGT, Int.reduceGE, Int.reduceNe, ne_eq, not_false_eq_true]
            exact ⟨LTok.zero, rfl, fun h => by cases h⟩
        · rw [run_take2 c r h4, ← Nat.add_assoc] at hs2
          have hlen := run_len2 r h4
          have hlen2 : (c :: r.takeWhile amoC).length = runLen r + 1 := by rw [List.length_cons, hlen]
          generalize c :: r.takeWhile amoC = u at hs2 hlen2 ⊢
          simp only [go_sem, Nat.reduceAdd, Nat.reduceLeDiff, Nat.reduceSub, Nat.reduceMul, Nat.reduceEqDiff, Int.reduceEq, Int.reduceLT, Int.reduceLE, Int.reduceAdd, Int.reduceSub, Int.reduceNeg, Int.reduceGT, Int.reduceGE, Int.reduceNe, ne_eq, not_false_eq_true, hs2]
          rw [wrap64 (n := ((pre.length + 1 + runLen r : Nat) : Int) - (pre.length : Int)) (by omega) (by omega), wrap64 (by omega) (by omega)]
          unfold tyvA
          have hd : decide (((pre.length + 1 + runLen r : Nat) : Int) - (pre.length : Int) - 1 > 32) = decide ((u.length : Int) - 1 > 32) := by rw [decide_eq_decide]; omega
          rw [hd]
          cases decide ((u.length : Int) - 1 > 32)
          · simp only [go_sem, Nat.reduceAdd, Nat.reduceLeDiff, Nat.reduceSub, Nat.reduceMul, Nat.reduceEqDiff, Int.reduceEq, Int.reduceLT, Int.reduceLE, Int.reduceAdd, Int.reduceSub, Int.reduceNeg, Int.reduceGT, Int.reduceGE, Int.reduceNe, ne_eq, not_false_eq_true]
            exact ⟨LTok.mk 4 pre.length u 0, rfl, fun _ => rfl⟩
          · simp only [go_sem, Nat.reduceAdd, Nat.reduceLeDiff, Nat.reduceSub, Nat.reduceMul, Nat.reduceEqDiff, Int.reduceEq, Int.reduceLT, Int.reduceLE, Int.reduceAdd, Int.reduceSub, Int.reduceNeg, Int.reduceGT, Int.reduceGE, Int.reduceNe, ne_eq, not_false_eq_true]
            exact ⟨LTok.zero, rfl, fun h => by cases h⟩
    · rw [hf, cond_true] at hs1
      have hlen := run_len c r hf
      have hpos := runLen_pos (s := c :: r) (by simp) hf
      have hn := hname (runLen (c :: r)) hpos (by simpa using hr1)
      rw [run_take, hf, cond_true] at hn
      have h39f : decide (c = 39) = false := by
        apply decide_eq_false
        intro e
        subst e
        exact absurd hf (by decide)
      generalize hu : (c :: r).takeWhile amoC = u at hs1 hlen hn ⊢
      cases hu : decide (u = [95])
      · simp only [go_sem, Nat.reduceAdd, Nat.reduceLeDiff, Nat.reduceSub, Nat.reduceMul, Nat.reduceEqDiff, Int.reduceEq, Int.reduceLT, Int.reduceLE, Int.reduceAdd, Int.reduceSub, Int.reduceNeg, Int.reduceGT, Int.reduceGE, Int.reduceNe, ne_eq, not_false_eq_true, hs1, hu]
        rw [wrap64 (by omega) (by omega)]
        have hd : decide (((pre.length + runLen (c :: r) : Nat) : Int) - (pre.length : Int) > 32) = decide ((u.length : Int) > 32) := by rw [decide_eq_decide]; omega
        rw [hd]
        cases decide ((u.length : Int) > 32)
        · simp only [go_sem, Nat.reduceAdd, Nat.reduceLeDiff, Nat.reduceSub, Nat.reduceMul, Nat.reduceEqDiff, Int.reduceEq, Int.reduceLT, Int.reduceLE, Int.reduceAdd, Int.reduceSub, Int.reduceNeg, Int.reduceGT, Int.reduceGE, Int.reduceNe, ne_eq, not_false_eq_true, hn, LTok.enc, LTok.cells_mk]
          exact ⟨LTok.mk (namedA u) pre.length u 0, rfl, fun _ => rfl⟩
        · simp only [go_sem, Nat.reduceAdd, Nat.reduceLeDiff, Nat.reduceSub, Nat.reduceMul, Nat.reduceEqDiff, Int.reduceEq, Int.reduceLT, Int.reduceLE, Int.reduceAdd, Int.reduceSub, Int.reduceNeg, Int.reduceGT, Int.reduceGE, Int.reduceNe, ne_eq, not_false_eq_true]
          exact ⟨LTok.zero, rfl, fun h => by cases h⟩
      · simp only [go_sem, Nat.reduceAdd, Nat.reduceLeDiff, Nat.reduceSub, Nat.reduceMul, Nat.reduceEqDiff, Int.reduceEq, Int.reduceLT, Int.reduceLE, Int.reduceAdd, Int.reduceSub, Int.reduceNeg, Int.reduceGT, Int.reduceGE, Int.reduceNe, ne_eq, not_false_eq_true, hs1, hu]
        rw [hw]
        simp only [go_sem, Nat.reduceAdd, Nat.reduceLeDiff, Nat.reduceSub, Nat.reduceMul, Nat.reduceEqDiff, Int.reduceEq, Int.reduceLT, Int.reduceLE, Int.reduceAdd, Int.reduceSub, Int.reduceNeg, Int.reduceGT, Int.reduceGE, Int.reduceNe, ne_eq, not_false_eq_true, hrun2, h39f, hsign]
        unfold restA
        cases decide (signA (c :: r) = [])
        · simp only [go_sem, Nat.reduceAdd, Nat.reduceLeDiff, Nat.reduceSub, Nat.reduceMul, Nat.reduceEqDiff, Int.reduceEq, Int.reduceLT, Int.reduceLE, Int.reduceAdd, Int.reduceSub, Int.reduceNeg, Int.reduceGT, Int.reduceGE, Int.reduceNe, ne_eq, not_false_eq_true]
          exact ⟨LTok.mk 6 pre.length (signA (c :: r)) 0, rfl, fun _ => rfl⟩
        · simp only [go_sem, Nat.reduceAdd, Nat.reduceLeDiff, Nat.reduceSub, Nat.reduceMul, Nat.reduceEqDiff, Int.reduceEq, Int.reduceLT, Int.reduceLE, Int.reduceAdd, Int.reduceSub, Int.reduceNeg, Int.reduceGT, Int.reduceGE, Int.reduceNe, ne_eq, not_false_eq_true]
          exact ⟨LTok.zero, rfl, fun h => by cases h⟩
  · have hT : (c :: r).takeWhile digC ≠ [] := by simp [List.takeWhile_cons, hd]
    obtain ⟨hb1, hb2⟩ := badR_eq ((c :: r).takeWhile digC) m hT List.all_takeWhile
    simp only [go_sem, Nat.reduceAdd, Nat.reduceLeDiff, Nat.reduceSub, Nat.reduceMul, Nat.reduceEqDiff, Int.reduceEq, Int.reduceLT, Int.reduceLE, Int.reduceAdd, Int.reduceSub, Int.reduceNeg, Int.reduceGT, Int.reduceGE, Int.reduceNe, ne_eq, not_false_eq_true, hnum hd, hb1, LTok.enc, LTok.cells_mk]
    cases hn : (numA ((c :: r).takeWhile digC) m).2
    · simp only [go_sem, Nat.reduceAdd, Nat.reduceLeDiff, Nat.reduceSub, Nat.reduceMul, Nat.reduceEqDiff, Int.reduceEq, Int.reduceLT, Int.reduceLE, Int.reduceAdd, Int.reduceSub, Int.reduceNeg, Int.reduceGT, Int.reduceGE, Int.reduceNe, ne_eq, not_false_eq_true]
      exact ⟨LTok.mk 1 pre.length ((c :: r).takeWhile digC) (numS 0 ((c :: r).takeWhile digC)), rfl, fun h => by cases h⟩
    · simp only [go_sem, Nat.reduceAdd, Nat.reduceLeDiff, Nat.reduceSub, Nat.reduceMul, Nat.reduceEqDiff, Int.reduceEq, Int.reduceLT, Int.reduceLE, Int.reduceAdd, Int.reduceSub, Int.reduceNeg, Int.reduceGT, Int.reduceGE, Int.reduceNe, ne_eq, not_false_eq_true]
      exact ⟨LTok.mk 1 pre.length ((c :: r).takeWhile digC) (numS 0 ((c :: r).takeWhile digC)), rfl, fun _ => by rw [hb2 hn]⟩
end Go.Proofs.YtadhckhgemongaaDoor

namespace Go.Am
open Go
def skipF : Nat → Nat → Str → Nat × Bool × Str
  | 0, i, s => (i, true, s)
  | _ + 1, i, [] => (i, true, [])
  | n + 1, i, c :: r =>
    bif blankC c then skipF n (i + 1) r
    else bif lxOpens (c :: r) then (match lxCom 0 (c :: r) with | some k => skipF n (i + k) ((c :: r).drop k) | none => (i, false, c :: r))
    else (i, true, c :: r)
theorem skipF_drop : ∀ (n i : Nat) (s : Str), ∃ k, (skipF n i s).2.2 = s.drop k ∧ (skipF n i s).1 = i + k ∧ k ≤ s.length
  | 0, i, s => ⟨0, rfl, rfl, Nat.zero_le _⟩
  | _ + 1, i, [] => ⟨0, rfl, rfl, Nat.le_refl _⟩
  | n + 1, i, c :: r => by
    unfold skipF
    cases blankC c
    · simp only [cond_false]
      cases lxOpens (c :: r)
      · exact ⟨0, rfl, rfl, Nat.zero_le _⟩
      · simp only [cond_true]
        cases hc : lxCom 0 (c :: r) with
        | none => exact ⟨0, rfl, rfl, Nat.zero_le _⟩
        | some k =>
          have hk := com_le _ _ _ hc
          obtain ⟨j, h1, h2, h3⟩ := skipF_drop n (i + k) ((c :: r).drop k)
          simp only [List.length_drop] at h3
          exact ⟨k + j, by rw [h1, List.drop_drop], by rw [h2]; omega, by omega⟩
    · simp only [cond_true]
      obtain ⟨j, h1, h2, h3⟩ := skipF_drop n (i + 1) r
      exact ⟨j + 1, h1, by rw [h2]; omega, by simp only [List.length_cons]; omega⟩
theorem skipF_ok : ∀ (n i : Nat) (s : Str), s.length < n → (skipF n i s).2.1 = true → (skipF n i s).2.2 = [] ∨ ∃ c r, (skipF n i s).2.2 = c :: r ∧ blankC c = false ∧ lxOpens (c :: r) = false
  | 0, _, _, h, _ => by omega
  | _ + 1, i, [], _, _ => .inl rfl
  | n + 1, i, c :: r, h, ho => by
    unfold skipF at ho ⊢
    simp only [List.length_cons] at h
    cases hb : blankC c
    · rw [hb] at ho
      simp only [cond_false] at ho ⊢
      cases hp : lxOpens (c :: r)
      · exact .inr ⟨c, r, rfl, hb, hp⟩
      · rw [hp] at ho
        simp only [cond_true] at ho ⊢
        cases hc : lxCom 0 (c :: r) with
        | none => rw [hc] at ho; cases ho
        | some k =>
          rw [hc] at ho
          have hk := com_le _ _ _ hc
          exact skipF_ok n (i + k) ((c :: r).drop k) (by simp only [List.length_drop, List.length_cons]; omega) ho
    · rw [hb] at ho
      simp only [cond_true] at ho ⊢
      exact skipF_ok n (i + 1) r (by omega) ho
theorem skip_scan : ∀ (n i : Nat) (s : Str) (acc : List LTok), s.length < n →
    ((skipF n i s).2.1 = false → scanF n i s acc = ([], 12, ((skipF n i s).1 : Int))) ∧ ((skipF n i s).2.1 = true → ∀ m, (skipF n i s).2.2.length < m → scanF n i s acc = scanF m (skipF n i s).1 (skipF n i s).2.2 acc)
  | 0, _, _, _, h => by omega
  | n + 1, i, [], acc, _ => ⟨fun h => (by cases h), fun _ m hm => by cases m with | zero => simp at hm | succ m => rfl⟩
  | n + 1, i, c :: r, acc, h => by
    simp only [List.length_cons] at h
    unfold skipF
    cases hb : blankC c
    · simp only [cond_false]
      cases hp : lxOpens (c :: r)
      · simp only [cond_false]
        exact ⟨fun h => (by cases h), fun _ m hm => scanF_fuel _ _ _ _ _ (by simp only [List.length_cons]; omega) hm⟩
      · simp only [cond_true]
        cases hc : lxCom 0 (c :: r) with
        | none =>
          refine ⟨fun _ => ?_, fun h => by cases h⟩
          unfold scanF
          rw [hb, hp, hc]
          rfl
        | some k =>
          have hk := com_le _ _ _ hc
          have := skip_scan n (i + k) ((c :: r).drop k) acc (by simp only [List.length_drop, List.length_cons]; omega)
          have e : scanF (n + 1) i (c :: r) acc = scanF n (i + k) ((c :: r).drop k) acc := by
            rw [scanF, hb, hp, hc]; rfl
          rw [e]
          exact this
    · simp only [cond_true]
      have := skip_scan n (i + 1) r acc (by omega)
      have e : scanF (n + 1) i (c :: r) acc = scanF n (i + 1) r acc := by rw [scanF, hb]; rfl
      rw [e]
      exact this
theorem scanF_few : ∀ (n i : Nat) (s : Str) (acc : List LTok), acc.length ≤ 16384 → (scanF n i s acc).1.length ≤ 16384
  | 0, _, _, _, h => h
  | _ + 1, _, [], _, h => h
  | n + 1, i, c :: r, acc, h => by
    unfold scanF
    cases blankC c
    · simp only [cond_false]
      cases lxOpens (c :: r)
      · simp only [cond_false]
        cases hg : decide (acc.length ≥ 16384)
        · simp only [cond_false]
          cases decide ((oneA (c :: r) (tildeL acc)).1 = 0)
          · exact Nat.zero_le _
          · simp only [cond_true]
            exact scanF_few n _ _ _ (by simp at hg; simp; omega)
        · exact Nat.zero_le _
      · simp only [cond_true]
        cases lxCom 0 (c :: r) with
        | none => exact Nat.zero_le _
        | some k => exact scanF_few n _ _ _ h
    · exact scanF_few n _ _ _ h
theorem scan_few (s : Str) : (lxScan s).1.length ≤ 16384 := by
  unfold lxScan
  cases decide ((s.length : Int) > 65536)
  · exact scanF_few _ _ _ _ (Nat.zero_le _)
  · exact Nat.zero_le _
end Go.Am

namespace Go.Proofs.YtadhckhgemongaaDoor
open Go Go.Am
set_option linter.unusedVariables false
set_option maxRecDepth 4000
theorem skip_loop (L : Str) (hl : L.length < 2^58) : ∀ (n : Nat) (suf pre : Str) (s : St) (i : Nat), suf.length < n → pre ++ suf = L → i = pre.length →
    ref04_Skip_l0 (.val (.str L)) (.val (.int .i64 (i : Int))) s = some (.ret (.val (.tup [.int .i64 ((skipF n i suf).1 : Int), .bool (skipF n i suf).2.1])), s) := by
  intro n
  induction n with
  | zero => intro suf pre s i h; omega
  | succ n ih =>
    intro suf pre s i hf h hi
    subst hi
    have hL : pre.length + suf.length = L.length := by rw [← h]; simp
    have ho := fun s => ref04_has_spec pre suf [40, 42] (by rw [h]; omega) (by decide) pre.length rfl s
    have hrem := fun s => ref04_remark_spec pre suf (by rw [h]; omega) s
    rw [h, hasP_opens] at ho
    rw [h] at hrem
    rw [ref04_Skip_l0_eq]
    match suf, hf, h, hL with
    | [], _, h, hL =>
      have hb : decide ((pre.length : Int) < (L.length : Int)) = false := by simp; simp at hL; omega
      simp only [go_sem, Nat.reduceAdd, Nat.reduceLeDiff, Nat.reduceSub, Nat.reduceMul, Nat.reduceEqDiff, Int.reduceEq, Int.reduceLT, Int.reduceLE, Int.reduceAdd, Int.reduceSub, Int.reduceNeg, Int.reduceGT, Int.reduceGE, Int.reduceNe, ne_eq, not_false_eq_true, hb]
      rfl
    | c :: r, hf, h, hL =>
      simp only [List.length_cons] at hL hf
      have hc : L[pre.length]? = some c := by rw [← h]; simp
      have hb : decide ((pre.length : Int) < (L.length : Int)) = true := by simp; omega
      simp only [go_sem, Nat.reduceAdd, Nat.reduceLeDiff, Nat.reduceSub, Nat.reduceMul, Nat.reduceEqDiff, Int.reduceEq, Int.reduceLT, Int.reduceLE, Int.reduceAdd, Int.reduceSub, Int.reduceNeg, Int.reduceGT, Int.reduceGE, Int.reduceNe, ne_eq, not_false_eq_true, hb, indexS_str T_string_k hc, ref04_blank_spec, ho, hrem]
      unfold skipF
      cases hbl : blankC c
      · simp only [go_sem, Nat.reduceAdd, Nat.reduceLeDiff, Nat.reduceSub, Nat.reduceMul, Nat.reduceEqDiff, Int.reduceEq, Int.reduceLT, Int.reduceLE, Int.reduceAdd, Int.reduceSub, Int.reduceNeg, Int.reduceGT, Int.reduceGE, Int.reduceNe, ne_eq, not_false_eq_true]
        cases hop : lxOpens (c :: r)
        · simp only [go_sem, Nat.reduceAdd, Nat.reduceLeDiff, Nat.reduceSub, Nat.reduceMul, Nat.reduceEqDiff, Int.reduceEq, Int.reduceLT, Int.reduceLE, Int.reduceAdd, Int.reduceSub, Int.reduceNeg, Int.reduceGT, Int.reduceGE, Int.reduceNe, ne_eq, not_false_eq_true]
        · simp only [go_sem, Nat.reduceAdd, Nat.reduceLeDiff, Nat.reduceSub, Nat.reduceMul, Nat.reduceEqDiff, Int.reduceEq, Int.reduceLT, Int.reduceLE, Int.reduceAdd, Int.reduceSub, Int.reduceNeg, Int.reduceGT, Int.reduceGE, Int.reduceNe, ne_eq, not_false_eq_true]
          cases hcom : lxCom 0 (c :: r) with
          | none => simp only [go_sem, Nat.reduceAdd, Nat.reduceLeDiff, Nat.reduceSub, Nat.reduceMul, Nat.reduceEqDiff, Int.reduceEq, Int.reduceLT, Int.reduceLE, Int.reduceAdd, Int.reduceSub, Int.reduceNeg, Int.reduceGT, Int.reduceGE, Int.reduceNe, ne_eq, not_false_eq_true]
          | some k =>
            have hk := com_le _ _ _ hcom
            simp only [List.length_cons] at hk
            have hneg : decide (((pre.length + k : Nat) : Int) < 0) = false := by simp; omega
            simp only [go_sem, Nat.reduceAdd, Nat.reduceLeDiff, Nat.reduceSub, Nat.reduceMul, Nat.reduceEqDiff, Int.reduceEq, Int.reduceLT, Int.reduceLE, Int.reduceAdd, Int.reduceSub, Int.reduceNeg, Int.reduceGT, Int.reduceGE, Int.reduceNe, ne_eq, not_false_eq_true, hneg]
            exact ih ((c :: r).drop k) (pre ++ (c :: r).take k) s (pre.length + k) (by simp; omega) (by rw [List.append_assoc, List.take_append_drop, h]) (by simp; omega)
      · simp only [go_sem, Nat.reduceAdd, Nat.reduceLeDiff, Nat.reduceSub, Nat.reduceMul, Nat.reduceEqDiff, Int.reduceEq, Int.reduceLT, Int.reduceLE, Int.reduceAdd, Int.reduceSub, Int.reduceNeg, Int.reduceGT, Int.reduceGE, Int.reduceNe, ne_eq, not_false_eq_true]
        rw [wrap64 (by omega) (by omega)]
        exact ih r (pre ++ [c]) s (pre.length + 1) (by omega) (by simp [h]) (by simp)
theorem ref04_Skip_spec (pre suf : Str) (hl : (pre ++ suf).length < 2^58) (n : Nat) (hn : suf.length < n) (s : St) : cw (.f F_ref04_Skip) [.str (pre ++ suf), .int .i64 (pre.length : Int)] s = some (.ret (.val (.tup [.int .i64 ((skipF n pre.length suf).1 : Int), .bool (skipF n pre.length suf).2.1])), s) := by
  rw [ref04_Skip_eq]
  exact skip_loop _ hl n suf pre s _ hn rfl rfl
theorem rscan_loop (L : Str) (hl : L.length ≤ 65536) (s0 : St) : ∀ (fuel : Nat) (suf pre : Str) (acc : List LTok) (x : Slot) (s : St) (i : Nat), suf.length < fuel → pre ++ suf = L → i = pre.length → AccR T_Tok s0 s x (acc.map LTok.enc) → acc.length ≤ pre.length → acc.length ≤ 16384 →
    ∃ nl s', ref04_Scan_l0 (.val (.str L)) [.val (.int .i64 0), .val (.int .i64 0), .val (.str [])] x (.val (.int .i64 (i : Int))) s =
      some (.ret (.val (.tup [encS nl ((scanF fuel i suf acc).1.map LTok.enc), badEnc (scanF fuel i suf acc).2.1 (scanF fuel i suf acc).2.2])), s') ∧ Grew s0 s' := by
  intro fuel
  induction fuel with
  | zero => intro suf pre acc x s i h; omega
  | succ n ih =>
    intro suf pre acc x s i hf h hi a hacc hmax
    subst hi
    have hL : pre.length + suf.length = L.length := by rw [← h]; simp
    have hskip := ref04_Skip_spec pre suf (by rw [h]; omega) (n + 1) hf s
    rw [h] at hskip
    obtain ⟨k, hk1, hk2, hk3⟩ := skipF_drop (n + 1) pre.length suf
    have hok := skipF_ok (n + 1) pre.length suf hf
    obtain ⟨hs1, hs2⟩ := skip_scan (n + 1) pre.length suf acc hf
    obtain ⟨nl, hx⟩ := a.av
    rw [ref04_Scan_l0_eq]
    cases ho : (skipF (n + 1) pre.length suf).2.1
    · rw [hs1 ho]
      rw [ho] at hskip
      simp only [go_sem, Nat.reduceAdd, Nat.reduceLeDiff, Nat.reduceSub, Nat.reduceMul, Nat.reduceEqDiff, Int.reduceEq, Int.reduceLT, Int.reduceLE, Int.reduceAdd, Int.reduceSub, Int.reduceNeg, Int.reduceGT, Int.reduceGE, Int.reduceNe, ne_eq, not_false_eq_true, hskip]
      exact ⟨true, s, rfl, a.grew⟩
    · have hok := hok ho
      have hs2 := hs2 ho
      rw [ho] at hskip
      generalize (skipF (n + 1) pre.length suf).1 = j at hk2 hs2 hskip
      generalize (skipF (n + 1) pre.length suf).2.2 = t at hk1 hs2 hok
      have hpt : (pre ++ suf.take k) ++ t = L := by rw [hk1, List.append_assoc, List.take_append_drop, h]
      have hpl : (pre ++ suf.take k).length = j := by simp; omega
      generalize pre ++ suf.take k = p at hpt hpl
      have htl : t.length ≤ suf.length := by rw [hk1]; simp
      have hLp : p.length + t.length = L.length := by rw [← hpt]; simp
      simp only [go_sem, Nat.reduceAdd, Nat.reduceLeDiff, Nat.reduceSub, Nat.reduceMul, Nat.reduceEqDiff, Int.reduceEq, Int.reduceLT, Int.reduceLE, Int.reduceAdd, Int.reduceSub, Int.reduceNeg, Int.reduceGT, Int.reduceGE, Int.reduceNe, ne_eq, not_false_eq_true, hskip]
      rcases hok with rfl | ⟨c, r, rfl, hbl, hop⟩
      · rw [hs2 (n + 1) (by simp)]
        have hb : decide ((j : Int) = (L.length : Int)) = true := by simp at hLp; simp; omega
        simp only [go_sem, Nat.reduceAdd, Nat.reduceLeDiff, Nat.reduceSub, Nat.reduceMul, Nat.reduceEqDiff, Int.reduceEq, Int.reduceLT, Int.reduceLE, Int.reduceAdd, Int.reduceSub, Int.reduceNeg, Int.reduceGT, Int.reduceGE, Int.reduceNe, ne_eq, not_false_eq_true, hb, avsO_cons hx]
        exact ⟨nl, s, rfl, a.grew⟩
      · have hb : decide ((j : Int) = (L.length : Int)) = false := by simp at hLp; simp; omega
        rw [hs2 (n + 1) (by omega)]
        have hone := ref04_One_spec p (c :: r)
        rw [hpt, hpl] at hone
        simp only [go_sem, Nat.reduceAdd, Nat.reduceLeDiff, Nat.reduceSub, Nat.reduceMul, Nat.reduceEqDiff, Int.reduceEq, Int.reduceLT, Int.reduceLE, Int.reduceAdd, Int.reduceSub, Int.reduceNeg, Int.reduceGT, Int.reduceGE, Int.reduceNe, ne_eq, not_false_eq_true, hb, a.list?]
        unfold scanF
        rw [hbl, hop]
        cases hge : decide (acc.length ≥ 16384)
        · have hge' : decide ((acc.length : Int) = 16384) = false := by simp at hge ⊢; omega
          simp only [go_sem, Nat.reduceAdd, Nat.reduceLeDiff, Nat.reduceSub, Nat.reduceMul, Nat.reduceEqDiff, Int.reduceEq, Int.reduceLT, Int.reduceLE, Int.reduceAdd, Int.reduceSub, Int.reduceNeg, Int.reduceGT, Int.reduceGE, Int.reduceNe, ne_eq, not_false_eq_true, hge']
          have hp := oneA_pre (c :: r) (tildeL acc) (by simp)
          rcases Nat.eq_zero_or_pos acc.length with h0 | h0
          case' inl =>
            have hz : decide ((acc.length : Int) > 0) = false := by simp [h0]
            have ht : tildeL acc = false := by unfold tildeL; rw [decide_eq_false (by omega)]; rfl
            rw [ht] at hp ⊢
            obtain ⟨tk, ho1, ho2⟩ := hone false (by simp) (by omega) s
            simp only [go_sem, Nat.reduceAdd, Nat.reduceLeDiff, Nat.reduceSub, Nat.reduceMul, Nat.reduceEqDiff, Int.reduceEq, Int.reduceLT, Int.reduceLE, Int.reduceAdd, Int.reduceSub, Int.reduceNeg, Int.reduceGT, Int.reduceGE, Int.reduceNe, ne_eq, not_false_eq_true, hz, ho1]
            generalize oneA (c :: r) false = z at hp ho1 ho2 ⊢
          case' inr =>
            have hz : decide ((acc.length : Int) > 0) = true := by simp; omega
            have ht : tildeL acc = decide ((acc.getLastD .zero).text = [126]) := by unfold tildeL; rw [decide_eq_true h0]; rfl
            rw [ht] at hp ⊢
            obtain ⟨tk, ho1, ho2⟩ := hone (decide ((acc.getLastD .zero).text = [126])) (by simp) (by omega) s
            simp only [go_sem, Nat.reduceAdd, Nat.reduceLeDiff, Nat.reduceSub, Nat.reduceMul, Nat.reduceEqDiff, Int.reduceEq, Int.reduceLT, Int.reduceLE, Int.reduceAdd, Int.reduceSub, Int.reduceNeg, Int.reduceGT, Int.reduceGE, Int.reduceNe, ne_eq, not_false_eq_true, hz]
            rw [wrap64 (by omega) (by omega), last_facts a.list? h0]
            simp only [go_sem, Nat.reduceAdd, Nat.reduceLeDiff, Nat.reduceSub, Nat.reduceMul, Nat.reduceEqDiff, Int.reduceEq, Int.reduceLT, Int.reduceLE, Int.reduceAdd, Int.reduceSub, Int.reduceNeg, Int.reduceGT, Int.reduceGE, Int.reduceNe, ne_eq, not_false_eq_true, ho1, LTok.cells]
            generalize oneA (c :: r) (decide ((acc.getLastD .zero).text = [126])) = z at hp ho1 ho2 ⊢
          all_goals
            obtain ⟨e, q⟩ := z
            simp only at hp ho2 ⊢
            cases he : decide (e = 0)
            · obtain ⟨tk1, tk2, tk3, tk4⟩ := tk
              simp only [go_sem, Nat.reduceAdd, Nat.reduceLeDiff, Nat.reduceSub, Nat.reduceMul, Nat.reduceEqDiff, Int.reduceEq, Int.reduceLT, Int.reduceLE, Int.reduceAdd, Int.reduceSub, Int.reduceNeg, Int.reduceGT, Int.reduceGE, Int.reduceNe, ne_eq, not_false_eq_true, LTok.enc, LTok.cells_mk, he]
              exact ⟨true, s, rfl, a.grew⟩
            · obtain ⟨hp1, hp2, hp3⟩ := hp (of_decide_eq_true he)
              have ho3 := ho2 (of_decide_eq_true he)
              obtain ⟨q1, q2, q3, q4⟩ := q
              simp only at hp1 hp2 hp3 ho3
              subst ho3
              obtain ⟨x', s', ha, a'⟩ := tokAcc (b := ⟨q1, j, q3, q4⟩) a (by omega)
              have ht1 := hp1.length_le
              have ht0 : 0 < q3.length := List.length_pos_iff.2 hp2
              simp only [List.length_cons] at ht1 htl
              simp only [List.length_cons] at hLp
              simp only [LTok.enc, LTok.cells_mk] at ha
              simp only [go_sem, Nat.reduceAdd, Nat.reduceLeDiff, Nat.reduceSub, Nat.reduceMul, Nat.reduceEqDiff, Int.reduceEq, Int.reduceLT, Int.reduceLE, Int.reduceAdd, Int.reduceSub, Int.reduceNeg, Int.reduceGT, Int.reduceGE, Int.reduceNe, ne_eq, not_false_eq_true, LTok.enc, LTok.cells_mk, he, ha]
              rw [wrap64 (by omega) (by omega)]
              exact ih ((c :: r).drop q3.length) (p ++ (c :: r).take q3.length) _ x' s' (j + q3.length) (by simp; omega) (by rw [List.append_assoc, List.take_append_drop, hpt]) (by simp; omega) a' (by simp; omega) (by simp at hge ⊢; omega)
        · have hge' : decide ((acc.length : Int) = 16384) = true := by simp at hge ⊢; omega
          simp only [go_sem, Nat.reduceAdd, Nat.reduceLeDiff, Nat.reduceSub, Nat.reduceMul, Nat.reduceEqDiff, Int.reduceEq, Int.reduceLT, Int.reduceLE, Int.reduceAdd, Int.reduceSub, Int.reduceNeg, Int.reduceGT, Int.reduceGE, Int.reduceNe, ne_eq, not_false_eq_true, hge']
          exact ⟨true, s, rfl, a.grew⟩
theorem ref04_Scan_spec (L : Str) (hl : L.length < 2^60) (s : St) : ∃ nl s', cw (.f F_ref04_Scan) [.str L] s = some (.ret (.val (.tup [encS nl ((lxScan L).1.map LTok.enc), badEnc (lxScan L).2.1 (lxScan L).2.2])), s') ∧ Grew s s' := by
  rw [ref04_Scan_eq]
  unfold lxScan
  simp only [go_sem, Nat.reduceAdd, Nat.reduceLeDiff, Nat.reduceSub, Nat.reduceMul, Nat.reduceEqDiff, Int.reduceEq, Int.reduceLT, Int.reduceLE, Int.reduceAdd, Int.reduceSub, Int.reduceNeg, Int.reduceGT, Int.reduceGE, Int.reduceNe, ne_eq, not_false_eq_true]
  cases hb : decide ((L.length : Int) > 65536)
  · simp only [go_sem, Nat.reduceAdd, Nat.reduceLeDiff, Nat.reduceSub, Nat.reduceMul, Nat.reduceEqDiff, Int.reduceEq, Int.reduceLT, Int.reduceLE, Int.reduceAdd, Int.reduceSub, Int.reduceNeg, Int.reduceGT, Int.reduceGE, Int.reduceNe, ne_eq, not_false_eq_true]
    exact rscan_loop L (by simp at hb; omega) s (L.length + 1) L [] [] (.val .nils) s 0 (by omega) rfl rfl (AccR.nil _ _) (by simp) (by simp)
  · simp only [go_sem, Nat.reduceAdd, Nat.reduceLeDiff, Nat.reduceSub, Nat.reduceMul, Nat.reduceEqDiff, Int.reduceEq, Int.reduceLT, Int.reduceLE, Int.reduceAdd, Int.reduceSub, Int.reduceNeg, Int.reduceGT, Int.reduceGE, Int.reduceNe, ne_eq, not_false_eq_true]
    exact ⟨true, s, rfl, .refl s⟩
end Go.Proofs.YtadhckhgemongaaDoor

namespace Go.Proofs.YtadhckhgemongaaDoor
open Go Go.Am
set_option linter.unusedVariables false
set_option maxRecDepth 4000
def bareT (t : LTok) : Int × Str × Int := (t.kind, t.text, t.num)
theorem same_loop (A B : List LTok) (x y : Slot) (hx : x.list? = some (A.map LTok.enc)) (hy : y.list? = some (B.map LTok.enc)) (hl : A.length < 2^30) (hb : B.length = A.length) : ∀ (suf pre sufB preB : List LTok) (s : St) (i : Nat), pre ++ suf = A → preB ++ sufB = B → i = pre.length → preB.length = pre.length → suf.map bareT = sufB.map bareT →
    ref04_Same_l0 x y (.val (.int .i64 (A.length : Int))) (.val (.int .i64 (i : Int))) s = some (.ret (.val (.bool true)), s) := by
  intro suf
  induction suf with
  | nil =>
    intro pre sufB preB s i h h' hi hp he
    rw [List.append_nil] at h
    subst h hi
    rw [ref04_Same_l0_eq]
    simp only [go_sem, Nat.reduceAdd, Nat.reduceLeDiff, Nat.reduceSub, Nat.reduceMul, Nat.reduceEqDiff, Int.reduceEq, Int.reduceLT, Int.reduceLE, Int.reduceAdd, Int.reduceSub, Int.reduceNeg, Int.reduceGT, Int.reduceGE, Int.reduceNe, ne_eq, not_false_eq_true, Int.lt_irrefl]
  | cons c suf ih =>
    intro pre sufB preB s i h h' hi hp he
    subst hi
    cases sufB with
    | nil => simp at he
    | cons d sufB =>
      simp only [List.map_cons, List.cons.injEq] at he
      obtain ⟨he1, he2⟩ := he
      obtain ⟨f1, f2, f3⟩ := step_facts (f := LTok.enc) (x := x) (sz := 4) hx h (by omega) (LTok.cells_len _) (by decide)
      obtain ⟨g1, g2, g3⟩ := step_facts (f := LTok.enc) (x := y) (sz := 4) hy h' (by omega) (LTok.cells_len _) (by decide)
      rw [hp] at g2
      have := ih (pre ++ [c]) sufB (preB ++ [d]) s (pre.length + 1) (by simp [h]) (by simp [h']) (by simp) (by simp [hp]) he2
      obtain ⟨c1, c2, c3, c4⟩ := c
      obtain ⟨d1, d2, d3, d4⟩ := d
      simp only [bareT, Prod.mk.injEq] at he1
      obtain ⟨rfl, rfl, rfl⟩ := he1
      rw [ref04_Same_l0_eq]
      simp only [LTok.enc, LTok.cells_mk] at f2 g2
      simp only [go_sem, Nat.reduceAdd, Nat.reduceLeDiff, Nat.reduceSub, Nat.reduceMul, Nat.reduceEqDiff, Int.reduceEq, Int.reduceLT, Int.reduceLE, Int.reduceAdd, Int.reduceSub, Int.reduceNeg, Int.reduceGT, Int.reduceGE, Int.reduceNe, ne_eq, not_false_eq_true, f1, f2, f3, g2]
      exact this
theorem ref04_Same_spec (A B : List LTok) (a b : AV) (ha : (Slot.val a).list? = some (A.map LTok.enc)) (hb : (Slot.val b).list? = some (B.map LTok.enc)) (hl : A.length < 2^30) (he : A.map bareT = B.map bareT) (s : St) : cw (.f F_ref04_Same) [a, b] s = some (.ret (.val (.bool true)), s) := by
  have hlen : A.length = B.length := by simpa using congrArg List.length he
  rw [ref04_Same_eq]
  simp only [go_sem, Nat.reduceAdd, Nat.reduceLeDiff, Nat.reduceSub, Nat.reduceMul, Nat.reduceEqDiff, Int.reduceEq, Int.reduceLT, Int.reduceLE, Int.reduceAdd, Int.reduceSub, Int.reduceNeg, Int.reduceGT, Int.reduceGE, Int.reduceNe, ne_eq, not_false_eq_true, ha, hb]
  rw [← hlen]
  simp only [go_sem, Nat.reduceAdd, Nat.reduceLeDiff, Nat.reduceSub, Nat.reduceMul, Nat.reduceEqDiff, Int.reduceEq, Int.reduceLT, Int.reduceLE, Int.reduceAdd, Int.reduceSub, Int.reduceNeg, Int.reduceGT, Int.reduceGE, Int.reduceNe, ne_eq, not_false_eq_true]
  exact same_loop A B _ _ ha hb hl hlen.symm A [] B [] s 0 rfl rfl rfl rfl he
theorem places_loop (A : List LTok) (x y : Slot) (hx : x.list? = some (A.map LTok.enc)) (hy : y.list? = some (A.map LTok.enc)) (hl : A.length < 2^30) : ∀ (suf pre : List LTok) (s : St) (i : Nat), pre ++ suf = A → i = pre.length →
    law04_places_l0 x y (.val (.int .i64 (A.length : Int))) (.val (.int .i64 (i : Int))) s = some (.ret (.val (.bool true)), s) := by
  intro suf
  induction suf with
  | nil =>
    intro pre s i h hi
    rw [List.append_nil] at h
    subst h hi
    rw [law04_places_l0_eq]
    simp only [go_sem, Nat.reduceAdd, Nat.reduceLeDiff, Nat.reduceSub, Nat.reduceMul, Nat.reduceEqDiff, Int.reduceEq, Int.reduceLT, Int.reduceLE, Int.reduceAdd, Int.reduceSub, Int.reduceNeg, Int.reduceGT, Int.reduceGE, Int.reduceNe, ne_eq, not_false_eq_true, Int.lt_irrefl]
  | cons c suf ih =>
    intro pre s i h hi
    subst hi
    obtain ⟨f1, f2, f3⟩ := step_facts (f := LTok.enc) (x := x) (sz := 4) hx h (by omega) (LTok.cells_len _) (by decide)
    obtain ⟨g1, g2, g3⟩ := step_facts (f := LTok.enc) (x := y) (sz := 4) hy h (by omega) (LTok.cells_len _) (by decide)
    have := ih (pre ++ [c]) s (pre.length + 1) (by simp [h]) (by simp)
    obtain ⟨c1, c2, c3, c4⟩ := c
    rw [law04_places_l0_eq]
    simp only [LTok.enc, LTok.cells_mk] at f2 g2
    simp only [go_sem, Nat.reduceAdd, Nat.reduceLeDiff, Nat.reduceSub, Nat.reduceMul, Nat.reduceEqDiff, Int.reduceEq, Int.reduceLT, Int.reduceLE, Int.reduceAdd, Int.reduceSub, Int.reduceNeg, Int.reduceGT, Int.reduceGE, Int.reduceNe, ne_eq, not_false_eq_true, f1, f2, f3, g2]
    exact this
theorem law04_places_spec (A : List LTok) (a b : AV) (ha : (Slot.val a).list? = some (A.map LTok.enc)) (hb : (Slot.val b).list? = some (A.map LTok.enc)) (hl : A.length < 2^30) (s : St) : cw (.f F_law04_places) [a, b] s = some (.ret (.val (.bool true)), s) := by
  rw [law04_places_eq]
  simp only [go_sem, Nat.reduceAdd, Nat.reduceLeDiff, Nat.reduceSub, Nat.reduceMul, Nat.reduceEqDiff, Int.reduceEq, Int.reduceLT, Int.reduceLE, Int.reduceAdd, Int.reduceSub, Int.reduceNeg, Int.reduceGT, Int.reduceGE, Int.reduceNe, ne_eq, not_false_eq_true, ref04_Same_spec A A a b ha hb hl rfl, ha]
  exact places_loop A _ _ ha hb hl A [] s 0 rfl rfl
theorem clone_spec (l : List Str) (h0 : l ≠ []) (hl : l.length < 2^20) (s : St) : ∃ x s', cw (.f F_slices_Clone_Sstring_string) [.sl (l.map .str)] s = some (.ret x, s') ∧ x.list? = some (l.map .str) ∧ Grew s s' := by
  rw [slices_Clone_Sstring_string_eq]
  have hn : binS (C.ti T_S_string) .eql (.val (.sl (l.map .str))) (.val .nils) = some (.val (.bool false)) := by simp only [binS, av_val, eqS, T_S_string_k]; rfl
  obtain ⟨x, s', h1, h2⟩ := AccR.appendF (f := AV.str) (t := C.ti T_string) (A := []) (B := l) (y := .val (.sl (l.map .str))) (AccR.full T_string s []) rfl (fun a => by rw [T_string_size]; rfl) (by rw [T_string_size]; decide) (by simp; omega) (by rw [T_string_bytes]; decide)
  simp only [go_sem, Nat.reduceAdd, Nat.reduceLeDiff, Nat.reduceSub, Nat.reduceMul, Nat.reduceEqDiff, Int.reduceEq, Int.reduceLT, Int.reduceLE, Int.reduceAdd, Int.reduceSub, Int.reduceNeg, Int.reduceGT, Int.reduceGE, Int.reduceNe, ne_eq, not_false_eq_true, hn, h1]
  exact ⟨x, s', rfl, by simpa using h2.list?, h2.grew⟩
theorem lex_Words_spec (s : St) : ∃ x s', cw (.f F_lex_Words) [] s = some (.ret x, s') ∧ x.list? = some (lwords.map .str) ∧ Grew s s' := by
  rw [lex_Words_eq, words_slice]
  obtain ⟨x, s', h1, h2, h3⟩ := clone_spec lwords (by decide) (by decide) s
  simp only [go_sem, Nat.reduceAdd, Nat.reduceLeDiff, Nat.reduceSub, Nat.reduceMul, Nat.reduceEqDiff, Int.reduceEq, Int.reduceLT, Int.reduceLE, Int.reduceAdd, Int.reduceSub, Int.reduceNeg, Int.reduceGT, Int.reduceGE, Int.reduceNe, ne_eq, not_false_eq_true, h1]
  exact ⟨x, s', rfl, h2, h3⟩
theorem lex_Signs_spec (s : St) : ∃ x s', cw (.f F_lex_Signs) [] s = some (.ret x, s') ∧ x.list? = some (lsigns.map .str) ∧ Grew s s' := by
  rw [lex_Signs_eq, signs_slice]
  obtain ⟨x, s', h1, h2, h3⟩ := clone_spec lsigns (by decide) (by decide) s
  simp only [go_sem, Nat.reduceAdd, Nat.reduceLeDiff, Nat.reduceSub, Nat.reduceMul, Nat.reduceEqDiff, Int.reduceEq, Int.reduceLT, Int.reduceLE, Int.reduceAdd, Int.reduceSub, Int.reduceNeg, Int.reduceGT, Int.reduceGE, Int.reduceNe, ne_eq, not_false_eq_true, h1]
  exact ⟨x, s', rfl, h2, h3⟩
theorem beqi (x y : Int) : (x == y) = decide (x = y) := by rw [Bool.eq_iff_iff]; simp
theorem bad_eql (a b c d : Int) (x y : Str) : binS (C.ti T_Bad) .eql (.val (.agg [.int .i64 a, .int .i64 b, .str x])) (.val (.agg [.int .i64 c, .int .i64 d, .str y])) = some (.val (.bool (decide (a = c) && (decide (b = d) && decide (x = y))))) := by
  simp only [binS, av_val, eqS, T_Bad_k, T_Bad_flat, List.isEmpty_cons, cond_false, eqAll, TK.has, decide_true, Bool.and_self, cond_true, AV.eqb, if_true, beqd, beqi]
  generalize decide (a = c) = p; generalize decide (b = d) = q; generalize decide (x = y) = r
  cases p <;> cases q <;> cases r <;> rfl
def know1 : Str := [118, 97, 108, 32, 120, 39, 61, 126, 49, 50, 40, 42, 97, 40, 42, 98, 42, 41, 42, 41]
theorem know1_scan : lxScan know1 = ([⟨5, 0, [118, 97, 108], 0⟩, ⟨2, 4, [120, 39], 0⟩, ⟨6, 6, [61], 0⟩, ⟨6, 7, [126], 0⟩, ⟨1, 8, [49, 50], 12⟩], 0, 0) := by decide +kernel
theorem know2_scan : lxScan [97, 32, 40, 42, 32, 98] = ([], 12, 2) := by decide +kernel
theorem law04_knows_spec (s : St) : ∃ s', cw (.f F_law04_knows) [] s = some (.ret (.val (.bool true)), s') ∧ Grew s s' := by
  rw [law04_knows_eq]
  obtain ⟨n1, s1, h1, g1⟩ := lex_Scan_spec know1 (by decide) s
  rw [know1_scan] at h1
  obtain ⟨n2, s2, h2, g2⟩ := lex_Scan_spec [97, 32, 40, 42, 32, 98] (by decide) s1
  rw [know2_scan] at h2
  obtain ⟨x3, s3, h3, l3, g3⟩ := lex_Words_spec s2
  obtain ⟨x4, s4, h4, l4, g4⟩ := lex_Signs_spec s3
  unfold know1 at h1
  simp only [badEnc, LTok.enc, LTok.cells_mk, List.map_cons, List.map_nil, encS_cons] at h1 h2
  have e5 : decide (((5 : Nat) : Int) = 5) = true := rfl
  have e24 : decide (((lwords.length : Nat) : Int) = 24) = true := by decide
  have e19 : decide (((lsigns.length : Nat) : Int) = 19) = true := by decide
  have ix1 : ixS 4 (.val (.sl [.agg [.int .i64 5, .int .i64 0, .str [118, 97, 108], .int .i64 0], .agg [.int .i64 2, .int .i64 4, .str [120, 39], .int .i64 0], .agg [.int .i64 6, .int .i64 6, .str [61], .int .i64 0], .agg [.int .i64 6, .int .i64 7, .str [126], .int .i64 0], .agg [.int .i64 1, .int .i64 8, .str [49, 50], .int .i64 12]])) (.val (.int .i64 1)) = some (.val (.cp [.int .i64 2, .int .i64 4, .str [120, 39], .int .i64 0])) := rfl
  have ix4 : ixS 4 (.val (.sl [.agg [.int .i64 5, .int .i64 0, .str [118, 97, 108], .int .i64 0], .agg [.int .i64 2, .int .i64 4, .str [120, 39], .int .i64 0], .agg [.int .i64 6, .int .i64 6, .str [61], .int .i64 0], .agg [.int .i64 6, .int .i64 7, .str [126], .int .i64 0], .agg [.int .i64 1, .int .i64 8, .str [49, 50], .int .i64 12]])) (.val (.int .i64 4)) = some (.val (.cp [.int .i64 1, .int .i64 8, .str [49, 50], .int .i64 12])) := rfl
  simp only [go_sem, Nat.reduceAdd, Nat.reduceLeDiff, Nat.reduceSub, Nat.reduceMul, Nat.reduceEqDiff, Int.reduceEq, Int.reduceLT, Int.reduceLE, Int.reduceAdd, Int.reduceSub, Int.reduceNeg, Int.reduceGT, Int.reduceGE, Int.reduceNe, ne_eq, not_false_eq_true, h1, h2, h3, h4, l3, l4, bad_eql, ix1, ix4, e5, e24, e19]
  exact ⟨s4, rfl, ((g1.trans g2).trans g3).trans g4⟩
end Go.Proofs.YtadhckhgemongaaDoor

namespace Go.Proofs.YtadhckhgemongaaDoor
open Go Go.Am
set_option linter.unusedVariables false
set_option maxRecDepth 4000
theorem law04_LexScans_spec (L : Str) (hl : L.length < 2^60) (s : St) : ∃ s', cw (.f F_law04_LexScans) [.str L] s = some (.ret (.val (.bool true)), s') ∧ Grew s s' := by
  rw [law04_LexScans_eq]
  simp only [go_sem, Nat.reduceAdd, Nat.reduceLeDiff, Nat.reduceSub, Nat.reduceMul, Nat.reduceEqDiff, Int.reduceEq, Int.reduceLT, Int.reduceLE, Int.reduceAdd, Int.reduceSub, Int.reduceNeg, Int.reduceGT, Int.reduceGE, Int.reduceNe, ne_eq, not_false_eq_true]
  cases hb : decide ((L.length : Int) > 70000)
  · simp only [go_sem, Nat.reduceAdd, Nat.reduceLeDiff, Nat.reduceSub, Nat.reduceMul, Nat.reduceEqDiff, Int.reduceEq, Int.reduceLT, Int.reduceLE, Int.reduceAdd, Int.reduceSub, Int.reduceNeg, Int.reduceGT, Int.reduceGE, Int.reduceNe, ne_eq, not_false_eq_true]
    obtain ⟨n1, s1, h1, g1⟩ := lex_Scan_spec L hl s
    obtain ⟨n2, s2, h2, g2⟩ := ref04_Scan_spec L hl s1
    have hlen : (lxScan L).1.length < 2^30 := by have := scan_few L; omega
    have hp := law04_places_spec (lxScan L).1 (encS n1 ((lxScan L).1.map LTok.enc)) (encS n2 ((lxScan L).1.map LTok.enc)) (list?_encS _ _) (list?_encS _ _) hlen s2
    obtain ⟨s3, h3, g3⟩ := law04_knows_spec s2
    simp only [badEnc] at h1 h2
    simp only [go_sem, Nat.reduceAdd, Nat.reduceLeDiff, Nat.reduceSub, Nat.reduceMul, Nat.reduceEqDiff, Int.reduceEq, Int.reduceLT, Int.reduceLE, Int.reduceAdd, Int.reduceSub, Int.reduceNeg, Int.reduceGT, Int.reduceGE, Int.reduceNe, ne_eq, not_false_eq_true, h1, h2, bad_eql, hp, h3]
    exact ⟨s3, rfl, (g1.trans g2).trans g3⟩
  · simp only [go_sem, Nat.reduceAdd, Nat.reduceLeDiff, Nat.reduceSub, Nat.reduceMul, Nat.reduceEqDiff, Int.reduceEq, Int.reduceLT, Int.reduceLE, Int.reduceAdd, Int.reduceSub, Int.reduceNeg, Int.reduceGT, Int.reduceGE, Int.reduceNe, ne_eq, not_false_eq_true]
    obtain ⟨s3, h3, g3⟩ := law04_knows_spec s
    rw [h3]
    simp only [go_sem, Nat.reduceAdd, Nat.reduceLeDiff, Nat.reduceSub, Nat.reduceMul, Nat.reduceEqDiff, Int.reduceEq, Int.reduceLT, Int.reduceLE, Int.reduceAdd, Int.reduceSub, Int.reduceNeg, Int.reduceGT, Int.reduceGE, Int.reduceNe, ne_eq, not_false_eq_true]
    exact ⟨s3, rfl, g3⟩
theorem law04_LexScans_row (x : Str) (g : x.length < 2^24) (hb : 0 ≤ 1048576) : Ret (cw (.f F_law04_LexScans) [.str x] st0) st0 (.bool true) := law04_LexScans_spec x (by omega) st0
end Go.Proofs.YtadhckhgemongaaDoor
