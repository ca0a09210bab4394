/- A part of the proof: SLex2, SLex3, SLex4, SLex5, SLexK, PLex5, SLexS, LLexTables. -/
import Derived.Test.YtadhckhgemongaaDoorM3
import Derived.Lib.Join
set_option linter.unusedVariables false
set_option linter.unusedSimpArgs false
namespace Go.Proofs.YtadhckhgemongaaDoor
open Go Go.Am
set_option linter.unusedVariables false
theorem wrapU8 {n : Int} (h : 0 ≤ n) (g : n ≤ 255) : IntKind.u8.wrap n = n := by
  unfold IntKind.wrap
  simp [IntKind.bits, IntKind.signed]
  omega
theorem convS_u8 (n : Int) : convS (C.ti T_uint8) (C.ti T_int) (.val (.int .u8 n)) = some (.val (.int .i64 (IntKind.i64.wrap n))) := by
  simp only [convS, T_int_k, T_uint8_k]
theorem dig_bounds {c : UInt8} (h : digC c = true) : (48 : Int) ≤ c.toNat ∧ (c.toNat : Int) ≤ 57 := by
  simp only [digC, digB, Bool.and_eq_true, decide_eq_true_eq] at h
  omega
theorem number_loop (L : Str) (td : Bool) (hl : L.length ≤ 10) : ∀ (suf pre : Str) (n : Int) (s : St) (i : Nat), pre ++ suf = L → i = pre.length → suf.all digC = true → 0 ≤ n → n < 10 ^ pre.length →
    lex_number_l0 (.val (.str L)) (.val (.bool td)) (.val (.int .i64 n)) (.val (.int .i64 L.length)) (.val (.int .i64 (i : Int))) s =
      some (.ret (.val (.tup [.int .i64 (numV n suf), .bool (decide (numV n suf < 1073741824) || decide (numV n suf = 1073741824) && td)])), s) := by
  intro suf
  induction suf with
  | nil =>
    intro pre n s i h hi hd h0 h1
    rw [List.append_nil] at h
    subst h hi
    rw [lex_number_l0_eq, show numV n [] = n from rfl]
    simp only [go_sem, Nat.reduceAdd, Nat.reduceLeDiff, Nat.reduceSub, Nat.reduceMul, Nat.reduceEqDiff, Int.reduceEq, Int.reduceLT, Int.reduceLE, Int.reduceAdd, Int.reduceSub, Int.reduceNeg, Int.reduceGT, Int.reduceGE, Int.reduceNe, ne_eq, not_false_eq_true, Int.lt_irrefl]
  | cons c suf ih =>
    intro pre n s i h hi hd h0 h1
    subst hi
    have hc : L[pre.length]? = some c := by rw [← h]; simp
    have hlt : pre.length < L.length := by rw [← h]; simp
    simp only [List.all_cons, Bool.and_eq_true] at hd
    obtain ⟨b1, b2⟩ := dig_bounds hd.1
    have hp : (10 : Int) ^ pre.length ≤ 10 ^ 9 := by exact_mod_cast (Nat.pow_le_pow_right (n := 10) (by decide) (show pre.length ≤ 9 by omega))
    have hp2 : (10 : Int) ^ (pre.length + 1) = 10 * 10 ^ pre.length := by rw [Int.pow_succ, Int.mul_comm]
    have hb : decide ((pre.length : Int) < (L.length : Int)) = true := by simpa using hlt
    have := ih (pre ++ [c]) (10 * n + ((c.toNat : Int) - 48)) s (pre.length + 1) (by simp [h]) (by simp) hd.2 (by omega) (by rw [List.length_append, List.length_singleton, hp2]; omega)
    rw [lex_number_l0_eq]
    simp only [go_sem, Nat.reduceAdd, Nat.reduceLeDiff, Nat.reduceSub, Nat.reduceMul, Nat.reduceEqDiff, Int.reduceEq, Int.reduceLT, Int.reduceLE, Int.reduceAdd, Int.reduceSub, Int.reduceNeg, Int.reduceGT, Int.reduceGE, Int.reduceNe, ne_eq, not_false_eq_true, hb, indexS_str T_string_k hc]
    rw [wrapU8 (by omega) (by omega), convS_u8]
    simp only [go_sem, Nat.reduceAdd, Nat.reduceLeDiff, Nat.reduceSub, Nat.reduceMul, Nat.reduceEqDiff, Int.reduceEq, Int.reduceLT, Int.reduceLE, Int.reduceAdd, Int.reduceSub, Int.reduceNeg, Int.reduceGT, Int.reduceGE, Int.reduceNe, ne_eq, not_false_eq_true]
    rw [wrap64 (n := 10 * n) (by omega) (by omega), wrap64 (n := (c.toNat : Int) - 48) (by omega) (by omega), wrap64 (n := 10 * n + _) (by omega) (by omega), wrap64 (n := (pre.length : Int) + 1) (by omega) (by omega)]
    have e : (pre.length : Int) + 1 = ((pre.length + 1 : Nat) : Int) := by omega
    rw [e, this]
    rfl
theorem lex_number_spec (t : Str) (td : Bool) (h0 : t ≠ []) (hd : t.all digC = true) (hl : t.length < 2^62) (s : St) :
    cw (.f F_lex_number) [.str t, .bool td] s = some (.ret (.val (.tup [.int .i64 (numA t td).1, .bool (numA t td).2])), s) := by
  rw [lex_number_eq]
  have hz : decide (((t.headD 0).toNat : Int) = 48) = decide (t.headD 0 = 48) := by
    rw [decide_eq_decide]
    constructor
    · intro h; exact UInt8.toNat_inj.1 (by show _ = 48; omega)
    · intro h; rw [h]; rfl
  cases h1 : decide ((t.length : Int) > 1) && decide (t.headD 0 = 48) || decide ((t.length : Int) > 10)
  · have hn : numA t td = (numV 0 t, decide (numV 0 t < 1073741824) || decide (numV 0 t = 1073741824) && td) := by unfold numA; rw [h1]; rfl
    have hlen : t.length ≤ 10 := by
      simp only [Bool.or_eq_false_iff, decide_eq_false_iff_not] at h1; omega
    have := number_loop t td hlen t [] 0 s 0 rfl rfl hd (by decide) (by simp)
    rw [hn]
    simp only [Int.ofNat_zero] at this
    rw [← this]
    simp only [Bool.or_eq_false_iff] at h1
    obtain ⟨h2, h3⟩ := h1
    cases h4 : decide ((t.length : Int) > 1)
    · simp only [go_sem, Nat.reduceAdd, Nat.reduceLeDiff, Nat.reduceSub, Nat.reduceMul, Nat.reduceEqDiff, Int.reduceEq, Int.reduceLT, Int.reduceLE, Int.reduceAdd, Int.reduceSub, Int.reduceNeg, Int.reduceGT, Int.reduceGE, Int.reduceNe, ne_eq, not_false_eq_true, h4, h3]
    · simp only [h4, Bool.true_and] at h2
      simp only [go_sem, Nat.reduceAdd, Nat.reduceLeDiff, Nat.reduceSub, Nat.reduceMul, Nat.reduceEqDiff, Int.reduceEq, Int.reduceLT, Int.reduceLE, Int.reduceAdd, Int.reduceSub, Int.reduceNeg, Int.reduceGT, Int.reduceGE, Int.reduceNe, ne_eq, not_false_eq_true, h4, indexS_zero T_string_k h0, hz, h2, h3]
  · have hn : numA t td = (0, false) := by unfold numA; rw [h1]; rfl
    rw [hn]
    cases h4 : decide ((t.length : Int) > 1)
    · simp only [h4, Bool.false_and, Bool.false_or] at h1
      simp only [go_sem, Nat.reduceAdd, Nat.reduceLeDiff, Nat.reduceSub, Nat.reduceMul, Nat.reduceEqDiff, Int.reduceEq, Int.reduceLT, Int.reduceLE, Int.reduceAdd, Int.reduceSub, Int.reduceNeg, Int.reduceGT, Int.reduceGE, Int.reduceNe, ne_eq, not_false_eq_true, h4, h1]
    · simp only [h4, Bool.true_and] at h1
      cases h2 : decide (t.headD 0 = 48)
      · simp only [h2, Bool.false_or] at h1
        simp only [go_sem, Nat.reduceAdd, Nat.reduceLeDiff, Nat.reduceSub, Nat.reduceMul, Nat.reduceEqDiff, Int.reduceEq, Int.reduceLT, Int.reduceLE, Int.reduceAdd, Int.reduceSub, Int.reduceNeg, Int.reduceGT, Int.reduceGE, Int.reduceNe, ne_eq, not_false_eq_true, h4, indexS_zero T_string_k h0, hz, h2, h1]
      · simp only [go_sem, Nat.reduceAdd, Nat.reduceLeDiff, Nat.reduceSub, Nat.reduceMul, Nat.reduceEqDiff, Int.reduceEq, Int.reduceLT, Int.reduceLE, Int.reduceAdd, Int.reduceSub, Int.reduceNeg, Int.reduceGT, Int.reduceGE, Int.reduceNe, ne_eq, not_false_eq_true, h4, indexS_zero T_string_k h0, hz, h2]
theorem lex_named_spec (t : Str) (h0 : t ≠ []) (s : St) : cw (.f F_lex_named) [.str t] s = some (.ret (.val (.int .i64 (namedA t))), s) := by
  rw [lex_named_eq, words_slice]
  simp only [go_sem, Nat.reduceAdd, Nat.reduceLeDiff, Nat.reduceSub, Nat.reduceMul, Nat.reduceEqDiff, Int.reduceEq, Int.reduceLT, Int.reduceLE, Int.reduceAdd, Int.reduceSub, Int.reduceNeg, Int.reduceGT, Int.reduceGE, Int.reduceNe, ne_eq, not_false_eq_true, contains_spec t lwords (by decide)]
  unfold namedA
  cases hasL lwords t
  · simp only [go_sem, Nat.reduceAdd, Nat.reduceLeDiff, Nat.reduceSub, Nat.reduceMul, Nat.reduceEqDiff, Int.reduceEq, Int.reduceLT, Int.reduceLE, Int.reduceAdd, Int.reduceSub, Int.reduceNeg, Int.reduceGT, Int.reduceGE, Int.reduceNe, ne_eq, not_false_eq_true]
    cases h1 : decide (t = [116, 114, 117, 101])
    · simp only [go_sem, Nat.reduceAdd, Nat.reduceLeDiff, Nat.reduceSub, Nat.reduceMul, Nat.reduceEqDiff, Int.reduceEq, Int.reduceLT, Int.reduceLE, Int.reduceAdd, Int.reduceSub, Int.reduceNeg, Int.reduceGT, Int.reduceGE, Int.reduceNe, ne_eq, not_false_eq_true]
      cases h2 : decide (t = [102, 97, 108, 115, 101])
      · simp only [go_sem, Nat.reduceAdd, Nat.reduceLeDiff, Nat.reduceSub, Nat.reduceMul, Nat.reduceEqDiff, Int.reduceEq, Int.reduceLT, Int.reduceLE, Int.reduceAdd, Int.reduceSub, Int.reduceNeg, Int.reduceGT, Int.reduceGE, Int.reduceNe, ne_eq, not_false_eq_true, indexS_zero T_string_k h0]
      · simp only [go_sem, Nat.reduceAdd, Nat.reduceLeDiff, Nat.reduceSub, Nat.reduceMul, Nat.reduceEqDiff, Int.reduceEq, Int.reduceLT, Int.reduceLE, Int.reduceAdd, Int.reduceSub, Int.reduceNeg, Int.reduceGT, Int.reduceGE, Int.reduceNe, ne_eq, not_false_eq_true]
    · simp only [go_sem, Nat.reduceAdd, Nat.reduceLeDiff, Nat.reduceSub, Nat.reduceMul, Nat.reduceEqDiff, Int.reduceEq, Int.reduceLT, Int.reduceLE, Int.reduceAdd, Int.reduceSub, Int.reduceNeg, Int.reduceGT, Int.reduceGE, Int.reduceNe, ne_eq, not_false_eq_true]
  · simp only [go_sem, Nat.reduceAdd, Nat.reduceLeDiff, Nat.reduceSub, Nat.reduceMul, Nat.reduceEqDiff, Int.reduceEq, Int.reduceLT, Int.reduceLE, Int.reduceAdd, Int.reduceSub, Int.reduceNeg, Int.reduceGT, Int.reduceGE, Int.reduceNe, ne_eq, not_false_eq_true]
theorem hasL_signs (s : Str) (n : Nat) (h : n ≤ s.length) (st : St) : cw (.f F_slices_Contains_Sstring_string) [.sl (lsigns.map .str), .str (s.take n)] st = some (.ret (.val (.bool (hasL lsigns (s.take n)))), st) := contains_spec _ _ (by decide) _
theorem sign_loop (t : Str) (s : St) : ∀ n : Nat, n ≤ t.length → n ≤ 2 → lex_sign_l0 (.val (.str t)) (.val (.int .i64 (n : Int))) s =
    some (.ret (.val (.str (bif decide (2 ≤ n) && hasL lsigns (t.take 2) then t.take 2 else bif decide (1 ≤ n) && hasL lsigns (t.take 1) then t.take 1 else []))), s)
  | 0, _, _ => by rw [lex_sign_l0_eq]; simp only [go_sem, Nat.reduceAdd, Nat.reduceLeDiff, Nat.reduceSub, Nat.reduceMul, Nat.reduceEqDiff, Int.reduceEq, Int.reduceLT, Int.reduceLE, Int.reduceAdd, Int.reduceSub, Int.reduceNeg, Int.reduceGT, Int.reduceGE, Int.reduceNe, ne_eq, not_false_eq_true]; try rfl
  | n + 1, h, h2 => by
    rw [lex_sign_l0_eq, signs_slice]
    have hb : decide (((n + 1 : Nat) : Int) > 0) = true := by simp
    simp only [go_sem, Nat.reduceAdd, Nat.reduceLeDiff, Nat.reduceSub, Nat.reduceMul, Nat.reduceEqDiff, Int.reduceEq, Int.reduceLT, Int.reduceLE, Int.reduceAdd, Int.reduceSub, Int.reduceNeg, Int.reduceGT, Int.reduceGE, Int.reduceNe, ne_eq, not_false_eq_true, hb, sliceS_to T_string_k h, hasL_signs t (n + 1) h]
    have e : ((n + 1 : Nat) : Int) - 1 = (n : Int) := by omega
    rw [e, wrap64 (by omega) (by omega), sign_loop t s n (by omega) (by omega)]
    rcases Nat.lt_or_ge n 1 with hn | hn
    · obtain rfl : n = 0 := by omega
      simp only [go_sem, Nat.reduceAdd, Nat.reduceLeDiff, Nat.reduceSub, Nat.reduceMul, Nat.reduceEqDiff, Int.reduceEq, Int.reduceLT, Int.reduceLE, Int.reduceAdd, Int.reduceSub, Int.reduceNeg, Int.reduceGT, Int.reduceGE, Int.reduceNe, ne_eq, not_false_eq_true]
      try (cases hasL lsigns (t.take 1) <;> rfl)
    · obtain rfl : n = 1 := by omega
      simp only [go_sem, Nat.reduceAdd, Nat.reduceLeDiff, Nat.reduceSub, Nat.reduceMul, Nat.reduceEqDiff, Int.reduceEq, Int.reduceLT, Int.reduceLE, Int.reduceAdd, Int.reduceSub, Int.reduceNeg, Int.reduceGT, Int.reduceGE, Int.reduceNe, ne_eq, not_false_eq_true]
      try (cases hasL lsigns (t.take 2) <;> rfl)
theorem lex_sign_spec (t : Str) (hl : t.length < 2^62) (s : St) : cw (.f F_lex_sign) [.str t] s = some (.ret (.val (.str (signA t))), s) := by
  rw [lex_sign_eq]
  have hm : min2 (.val (.int .i64 2)) (.val (.int .i64 (t.length : Int))) = some (.val (.int .i64 ((min 2 t.length : Nat) : Int))) := by
    simp only [min2]
    congr 4
    split <;> omega
  simp only [go_sem, Nat.reduceAdd, Nat.reduceLeDiff, Nat.reduceSub, Nat.reduceMul, Nat.reduceEqDiff, Int.reduceEq, Int.reduceLT, Int.reduceLE, Int.reduceAdd, Int.reduceSub, Int.reduceNeg, Int.reduceGT, Int.reduceGE, Int.reduceNe, ne_eq, not_false_eq_true, hm]
  rw [sign_loop t s (min 2 t.length) (by omega) (by omega)]
  unfold signA
  have h1 : decide (2 ≤ min 2 t.length) = decide (2 ≤ t.length) := by rw [decide_eq_decide]; omega
  have h2 : decide (1 ≤ min 2 t.length) = decide (1 ≤ t.length) := by rw [decide_eq_decide]; omega
  rw [h1, h2]
end Go.Proofs.YtadhckhgemongaaDoor

namespace Go.Proofs.YtadhckhgemongaaDoor
open Go Go.Am
set_option linter.unusedVariables false
set_option maxRecDepth 4000
section
variable (t : Str) (hl : t.length < 2^60) (s : St)
include hl
theorem upto_dig : cw (.f F_lex_one_1) [.int .i64 0, .fn F_lex_digit [], .cp [.str t]] s = some (.ret (.val (.str (t.takeWhile digC))), s) :=
  upto_spec F_lex_digit digB lex_digit_spec [] t 0 rfl (by simpa using (by omega : t.length < 2^62)) s
theorem upto_amo : cw (.f F_lex_one_1) [.int .i64 0, .fn F_lex_among [], .cp [.str t]] s = some (.ret (.val (.str (t.takeWhile amoC))), s) :=
  upto_spec F_lex_among amoB lex_among_spec [] t 0 rfl (by simpa using (by omega : t.length < 2^62)) s
theorem upto_amo1 (h0 : t ≠ []) : cw (.f F_lex_one_1) [.int .i64 1, .fn F_lex_among [], .cp [.str t]] s = some (.ret (.val (.str (t.take 1 ++ (t.drop 1).takeWhile amoC))), s) := by
  have h1 : (t.take 1).length = 1 := by cases t with | nil => exact absurd rfl h0 | cons a r => rfl
  have := upto_spec F_lex_among amoB lex_among_spec (t.take 1) (t.drop 1) 1 h1.symm (by rw [List.take_append_drop]; omega) s
  rw [List.take_append_drop] at this
  exact this
end
theorem toNat_eq (c : UInt8) (n : Nat) (h : n < 256) : decide ((c.toNat : Int) = (n : Int)) = decide (c = UInt8.ofNat n) := by
  rw [decide_eq_decide]
  constructor
  · intro h'
    apply UInt8.toNat_inj.1
    simp only [UInt8.toNat_ofNat']
    omega
  · intro h'
    rw [h']
    simp only [UInt8.toNat_ofNat']
    omega
theorem lex_one_rest (t : Str) (td : Bool) (hl : t.length < 2^60) (s : St) (z : List Slot) (hz : z.length = 4) :
    lex_one_j0 (.val (.cp [.str t])) z s = some (.ret (.val (.tup [(restA t).2.enc, .int .i64 (restA t).1])), s) := by
  rw [lex_one_j0_eq]
  have hs := lex_sign_spec t (by omega) s
  obtain ⟨a, b, c, d, rfl⟩ : ∃ a b c d, z = [a, b, c, d] := by
    match z, hz with
    | [a, b, c, d], _ => exact ⟨a, b, c, d, rfl⟩
  simp only [go_sem, Nat.reduceAdd, Nat.reduceLeDiff, Nat.reduceSub, Nat.reduceMul, Nat.reduceEqDiff, Int.reduceEq, Int.reduceLT, Int.reduceLE, Int.reduceAdd, Int.reduceSub, Int.reduceNeg, Int.reduceGT, Int.reduceGE, Int.reduceNe, ne_eq, not_false_eq_true, hs]
  unfold restA
  cases decide (signA t = [])
  · simp only [go_sem, Nat.reduceAdd, Nat.reduceLeDiff, Nat.reduceSub, Nat.reduceMul, Nat.reduceEqDiff, Int.reduceEq, Int.reduceLT, Int.reduceLE, Int.reduceAdd, Int.reduceSub, Int.reduceNeg, Int.reduceGT, Int.reduceGE, Int.reduceNe, ne_eq, not_false_eq_true]; rfl
  · simp only [go_sem, Nat.reduceAdd, Nat.reduceLeDiff, Nat.reduceSub, Nat.reduceMul, Nat.reduceEqDiff, Int.reduceEq, Int.reduceLT, Int.reduceLE, Int.reduceAdd, Int.reduceSub, Int.reduceNeg, Int.reduceGT, Int.reduceGE, Int.reduceNe, ne_eq, not_false_eq_true]; rfl
theorem get1 {t : Str} (h : 1 < t.length) : t[1]? = some ((t.drop 1).headD 0) := by
  match t, h with
  | a :: b :: r, _ => rfl
theorem lex_one_spec (t : Str) (td : Bool) (h0 : t ≠ []) (hl : t.length < 2^60) (s : St) :
    cw (.f F_lex_one) [.str t, .bool td] s = some (.ret (.val (.tup [(oneA t td).2.enc, .int .i64 (oneA t td).1])), s) := by
  rw [lex_one_eq]
  have hr := lex_one_rest t td hl s [.val (.int .i64 0), .val (.int .i64 0), .val (.str []), .val (.int .i64 0)] rfl
  have hn : digC (t.headD 0) = true → t.takeWhile digC ≠ [] ∧ (t.takeWhile digC).all digC = true := fun h => by
    cases t with
    | nil => exact absurd rfl h0
    | cons c r =>
      have h : digC c = true := h
      refine ⟨by simp [List.takeWhile_cons, h], ?_⟩
      exact List.all_takeWhile
  have hld : (t.takeWhile digC).length ≤ t.length := takeWhile_length_le _ _
  have hla : (t.takeWhile amoC).length ≤ t.length := takeWhile_length_le _ _
  unfold oneA
  simp only [go_sem, Nat.reduceAdd, Nat.reduceLeDiff, Nat.reduceSub, Nat.reduceMul, Nat.reduceEqDiff, Int.reduceEq, Int.reduceLT, Int.reduceLE, Int.reduceAdd, Int.reduceSub, Int.reduceNeg, Int.reduceGT, Int.reduceGE, Int.reduceNe, ne_eq, not_false_eq_true, indexS_zero T_string_k h0, lex_digit_spec, lex_first_spec, upto_dig t hl, upto_amo t hl]
  rw [show digB ((t.headD 0).toNat : Int) = digC (t.headD 0) from rfl, show firB ((t.headD 0).toNat : Int) = firC (t.headD 0) from rfl]
  cases hd : digC (t.headD 0)
  · simp only [go_sem, Nat.reduceAdd, Nat.reduceLeDiff, Nat.reduceSub, Nat.reduceMul, Nat.reduceEqDiff, Int.reduceEq, Int.reduceLT, Int.reduceLE, Int.reduceAdd, Int.reduceSub, Int.reduceNeg, Int.reduceGT, Int.reduceGE, Int.reduceNe, ne_eq, not_false_eq_true]
    cases hf : firC (t.headD 0)
    · simp only [go_sem, Nat.reduceAdd, Nat.reduceLeDiff, Nat.reduceSub, Nat.reduceMul, Nat.reduceEqDiff, Int.reduceEq, Int.reduceLT, Int.reduceLE, Int.reduceAdd, Int.reduceSub, Int.reduceNeg, Int.reduceGT, Int.reduceGE, Int.reduceNe, ne_eq, not_false_eq_true]
      rw [show decide (((t.headD 0).toNat : Int) = 39) = decide (t.headD 0 = 39) from toNat_eq _ 39 (by decide)]
      cases h3 : decide (t.headD 0 = 39)
      · simp only [go_sem, Nat.reduceAdd, Nat.reduceLeDiff, Nat.reduceSub, Nat.reduceMul, Nat.reduceEqDiff, Int.reduceEq, Int.reduceLT, Int.reduceLE, Int.reduceAdd, Int.reduceSub, Int.reduceNeg, Int.reduceGT, Int.reduceGE, Int.reduceNe, ne_eq, not_false_eq_true, hr]
      · simp only [go_sem, Nat.reduceAdd, Nat.reduceLeDiff, Nat.reduceSub, Nat.reduceMul, Nat.reduceEqDiff, Int.reduceEq, Int.reduceLT, Int.reduceLE, Int.reduceAdd, Int.reduceSub, Int.reduceNeg, Int.reduceGT, Int.reduceGE, Int.reduceNe, ne_eq, not_false_eq_true]
        have e1 : decide ((t.length : Int) > 1) = decide (1 < t.length) := by rw [decide_eq_decide]; omega
        rw [e1]
        cases h4 : decide (1 < t.length)
        · simp only [go_sem, Nat.reduceAdd, Nat.reduceLeDiff, Nat.reduceSub, Nat.reduceMul, Nat.reduceEqDiff, Int.reduceEq, Int.reduceLT, Int.reduceLE, Int.reduceAdd, Int.reduceSub, Int.reduceNeg, Int.reduceGT, Int.reduceGE, Int.reduceNe, ne_eq, not_false_eq_true, hr]
        · have h5 := get1 (of_decide_eq_true h4)
          have h6 := indexS_str (t := C.ti T_string) (et := C.ti T_0) (n := 1) T_string_k h5
          simp only [Int.cast_ofNat_Int] at h6
          have h8 : (t.take 1 ++ (t.drop 1).takeWhile amoC).length ≤ t.length := by
            have := takeWhile_length_le amoC (t.drop 1)
            simp only [List.length_append, List.length_take, List.length_drop] at *
            have := of_decide_eq_true h4
            omega
          have hu := upto_amo1 t hl s h0
          generalize t.take 1 ++ (t.drop 1).takeWhile amoC = u at h8 hu ⊢
          simp only [go_sem, Nat.reduceAdd, Nat.reduceLeDiff, Nat.reduceSub, Nat.reduceMul, Nat.reduceEqDiff, Int.reduceEq, Int.reduceLT, Int.reduceLE, Int.reduceAdd, Int.reduceSub, Int.reduceNeg, Int.reduceGT, Int.reduceGE, Int.reduceNe, ne_eq, not_false_eq_true, h6, lex_first_spec, hu]
          rw [show firB (((t.drop 1).headD 0).toNat : Int) = firC ((t.drop 1).headD 0) from rfl]
          cases h7 : firC ((t.drop 1).headD 0)
          · simp only [go_sem, Nat.reduceAdd, Nat.reduceLeDiff, Nat.reduceSub, Nat.reduceMul, Nat.reduceEqDiff, Int.reduceEq, Int.reduceLT, Int.reduceLE, Int.reduceAdd, Int.reduceSub, Int.reduceNeg, Int.reduceGT, Int.reduceGE, Int.reduceNe, ne_eq, not_false_eq_true, hr]
          · simp only [go_sem, Nat.reduceAdd, Nat.reduceLeDiff, Nat.reduceSub, Nat.reduceMul, Nat.reduceEqDiff, Int.reduceEq, Int.reduceLT, Int.reduceLE, Int.reduceAdd, Int.reduceSub, Int.reduceNeg, Int.reduceGT, Int.reduceGE, Int.reduceNe, ne_eq, not_false_eq_true]
            rw [wrap64 (by omega) (by omega)]
            unfold tyvA
            cases decide ((u.length : Int) - 1 > 32)
            · simp only [go_sem, Nat.reduceAdd, Nat.reduceLeDiff, Nat.reduceSub, Nat.reduceMul, Nat.reduceEqDiff, Int.reduceEq, Int.reduceLT, Int.reduceLE, Int.reduceAdd, Int.reduceSub, Int.reduceNeg, Int.reduceGT, Int.reduceGE, Int.reduceNe, ne_eq, not_false_eq_true]; rfl
            · simp only [go_sem, Nat.reduceAdd, Nat.reduceLeDiff, Nat.reduceSub, Nat.reduceMul, Nat.reduceEqDiff, Int.reduceEq, Int.reduceLT, Int.reduceLE, Int.reduceAdd, Int.reduceSub, Int.reduceNeg, Int.reduceGT, Int.reduceGE, Int.reduceNe, ne_eq, not_false_eq_true]; rfl
    · simp only [go_sem, Nat.reduceAdd, Nat.reduceLeDiff, Nat.reduceSub, Nat.reduceMul, Nat.reduceEqDiff, Int.reduceEq, Int.reduceLT, Int.reduceLE, Int.reduceAdd, Int.reduceSub, Int.reduceNeg, Int.reduceGT, Int.reduceGE, Int.reduceNe, ne_eq, not_false_eq_true]
      have h9 : t.takeWhile amoC ≠ [] := by
        cases t with
        | nil => exact absurd rfl h0
        | cons c r =>
          have hf : firC c = true := hf
          have : amoC c = true := by unfold amoC amoB; unfold firC at hf; rw [hf]; rfl
          simp [List.takeWhile_cons, this]
      cases h3 : decide (t.takeWhile amoC = [95])
      · simp only [go_sem, Nat.reduceAdd, Nat.reduceLeDiff, Nat.reduceSub, Nat.reduceMul, Nat.reduceEqDiff, Int.reduceEq, Int.reduceLT, Int.reduceLE, Int.reduceAdd, Int.reduceSub, Int.reduceNeg, Int.reduceGT, Int.reduceGE, Int.reduceNe, ne_eq, not_false_eq_true]
        cases h4 : decide (((t.takeWhile amoC).length : Int) > 32)
        · simp only [go_sem, Nat.reduceAdd, Nat.reduceLeDiff, Nat.reduceSub, Nat.reduceMul, Nat.reduceEqDiff, Int.reduceEq, Int.reduceLT, Int.reduceLE, Int.reduceAdd, Int.reduceSub, Int.reduceNeg, Int.reduceGT, Int.reduceGE, Int.reduceNe, ne_eq, not_false_eq_true, lex_named_spec _ h9]; rfl
        · simp only [go_sem, Nat.reduceAdd, Nat.reduceLeDiff, Nat.reduceSub, Nat.reduceMul, Nat.reduceEqDiff, Int.reduceEq, Int.reduceLT, Int.reduceLE, Int.reduceAdd, Int.reduceSub, Int.reduceNeg, Int.reduceGT, Int.reduceGE, Int.reduceNe, ne_eq, not_false_eq_true]; rfl
      · simp only [go_sem, Nat.reduceAdd, Nat.reduceLeDiff, Nat.reduceSub, Nat.reduceMul, Nat.reduceEqDiff, Int.reduceEq, Int.reduceLT, Int.reduceLE, Int.reduceAdd, Int.reduceSub, Int.reduceNeg, Int.reduceGT, Int.reduceGE, Int.reduceNe, ne_eq, not_false_eq_true, hr]
  · obtain ⟨h1, h2⟩ := hn hd
    simp only [go_sem, Nat.reduceAdd, Nat.reduceLeDiff, Nat.reduceSub, Nat.reduceMul, Nat.reduceEqDiff, Int.reduceEq, Int.reduceLT, Int.reduceLE, Int.reduceAdd, Int.reduceSub, Int.reduceNeg, Int.reduceGT, Int.reduceGE, Int.reduceNe, ne_eq, not_false_eq_true, lex_number_spec _ td h1 h2 (by omega)]
    cases (numA (t.takeWhile digC) td).2
    · simp only [go_sem, Nat.reduceAdd, Nat.reduceLeDiff, Nat.reduceSub, Nat.reduceMul, Nat.reduceEqDiff, Int.reduceEq, Int.reduceLT, Int.reduceLE, Int.reduceAdd, Int.reduceSub, Int.reduceNeg, Int.reduceGT, Int.reduceGE, Int.reduceNe, ne_eq, not_false_eq_true]; rfl
    · simp only [go_sem, Nat.reduceAdd, Nat.reduceLeDiff, Nat.reduceSub, Nat.reduceMul, Nat.reduceEqDiff, Int.reduceEq, Int.reduceLT, Int.reduceLE, Int.reduceAdd, Int.reduceSub, Int.reduceNeg, Int.reduceGT, Int.reduceGE, Int.reduceNe, ne_eq, not_false_eq_true]; rfl
end Go.Proofs.YtadhckhgemongaaDoor

namespace Go.Proofs.YtadhckhgemongaaDoor
open Go Go.Am
set_option linter.unusedVariables false
set_option maxRecDepth 4000
theorem LTok.cells_mk (k p : Int) (t : Str) (n : Int) : (LTok.mk k p t n).cells = [.int .i64 k, .int .i64 p, .str t, .int .i64 n] := rfl
theorem tokAcc {s0 s : St} {x : Slot} {A : List LTok} {b : LTok} (a : AccR T_Tok s0 s x (A.map LTok.enc)) (b1 : A.length < 2^29) :
    ∃ x' s', appendS T_Tok (C.ti T_Tok) s x (.full [b.enc]) = some (x', s') ∧ AccR T_Tok s0 s' x' ((A ++ [b]).map LTok.enc) :=
  AccR.appendF (B := [b]) a rfl (fun a => by rw [T_Tok_size]; exact LTok.cells_len a) (by rw [T_Tok_size]; decide) (by simp; omega) (by rw [T_Tok_bytes]; decide)
theorem scan_end (acc : List LTok) (x : Slot) (s0 s : St) (a : AccR T_Tok s0 s x (acc.map LTok.enc)) (k p : Int) :
    ∃ nl s', lex_Scan_j0 [.val (.int .i64 0), .val (.int .i64 0), .val (.str [])] x [.val (.int .i64 k), .val (.int .i64 p), .val (.str [])] s = some (.ret (.val (.tup [encS nl ((bif decide (k = 0) then acc else []).map LTok.enc), badEnc k p])), s') ∧ Grew s0 s' := by
  rw [lex_Scan_j0_eq]
  obtain ⟨nl, hx⟩ := a.av
  simp only [go_sem, Nat.reduceAdd, Nat.reduceLeDiff, Nat.reduceSub, Nat.reduceMul, Nat.reduceEqDiff, Int.reduceEq, Int.reduceLT, Int.reduceLE, Int.reduceAdd, Int.reduceSub, Int.reduceNeg, Int.reduceGT, Int.reduceGE, Int.reduceNe, ne_eq, not_false_eq_true]
  cases decide (k = 0)
  · simp only [go_sem, Nat.reduceAdd, Nat.reduceLeDiff, Nat.reduceSub, Nat.reduceMul, Nat.reduceEqDiff, Int.reduceEq, Int.reduceLT, Int.reduceLE, Int.reduceAdd, Int.reduceSub, Int.reduceNeg, Int.reduceGT, Int.reduceGE, Int.reduceNe, ne_eq, not_false_eq_true]
    exact ⟨true, s, rfl, a.grew⟩
  · simp only [go_sem, Nat.reduceAdd, Nat.reduceLeDiff, Nat.reduceSub, Nat.reduceMul, Nat.reduceEqDiff, Int.reduceEq, Int.reduceLT, Int.reduceLE, Int.reduceAdd, Int.reduceSub, Int.reduceNeg, Int.reduceGT, Int.reduceGE, Int.reduceNe, ne_eq, not_false_eq_true, avsO_cons hx]
    exact ⟨nl, s, rfl, a.grew⟩
theorem last_facts {acc : List LTok} {x : Slot} (h : x.list? = some (acc.map LTok.enc)) (h0 : 0 < acc.length) : ixS 4 x (.val (.int .i64 ((acc.length : Int) - 1))) = some (.val (.cp (acc.getLastD .zero).cells)) := by
  have hne : acc ≠ [] := List.length_pos_iff.1 h0
  have e : (acc.length : Int) - 1 = ((acc.length - 1 : Nat) : Int) := by omega
  rw [e]
  have hg : acc[acc.length - 1]? = some (acc.getLastD .zero) := by
    rw [← List.getLast?_eq_getElem?, List.getLast?_eq_some_getLast hne, List.getLastD_eq_getLast?, List.getLast?_eq_some_getLast hne]
    rfl
  exact ixS_get (v := LTok.enc (acc.getLastD .zero)) h (by rw [List.getElem?_map, hg]; rfl) (LTok.cells_len _) (by decide)
theorem scan_loop (L : Str) (hl : L.length ≤ 65536) (s0 : St) : ∀ (fuel : Nat) (suf pre : Str) (acc : List LTok) (x : Slot) (s : St) (i : Nat), suf.length < fuel → pre ++ suf = L → i = pre.length → AccR T_Tok s0 s x (acc.map LTok.enc) → acc.length ≤ pre.length →
    ∃ nl s', lex_Scan_l0 (.val (.str L)) [.val (.int .i64 0), .val (.int .i64 0), .val (.str [])] x [.val (.int .i64 0), .val (.int .i64 0), .val (.str [])] (.val (.int .i64 (i : Int))) s =
      some (.ret (.val (.tup [encS nl ((scanF fuel i suf acc).1.map LTok.enc), badEnc (scanF fuel i suf acc).2.1 (scanF fuel i suf acc).2.2])), s') ∧ Grew s0 s' := by
  intro fuel
  induction fuel with
  | zero => intro suf pre acc x s i h; omega
  | succ n ih =>
    intro suf pre acc x s i hf h hi a hacc
    subst hi
    have hL : pre.length + suf.length = L.length := by rw [← h]; simp
    rw [lex_Scan_l0_eq]
    match suf, hf, h, hL with
    | [], _, h, hL =>
      have hb : decide ((pre.length : Int) < (L.length : Int)) = false := by simp; simp at hL; omega
      simp only [go_sem, Nat.reduceAdd, Nat.reduceLeDiff, Nat.reduceSub, Nat.reduceMul, Nat.reduceEqDiff, Int.reduceEq, Int.reduceLT, Int.reduceLE, Int.reduceAdd, Int.reduceSub, Int.reduceNeg, Int.reduceGT, Int.reduceGE, Int.reduceNe, ne_eq, not_false_eq_true, hb]
      exact scan_end acc x s0 s a 0 0
    | c :: r, hf, h, hL =>
      simp only [List.length_cons] at hL hf
      have hc : L[pre.length]? = some c := by rw [← h]; simp
      have hb : decide ((pre.length : Int) < (L.length : Int)) = true := by simp; omega
      have hfrom := sliceS_from (t := C.ti T_string) T_string_k (l := L) (i := pre.length) (by omega)
      have hdrop : L.drop pre.length = c :: r := by rw [← h]; simp
      rw [hdrop] at hfrom
      have hpre := hasPrefix_spec (c :: r) [40, 42] s
      have hop : (decide (([40, 42] : Str).length ≤ (c :: r).length) && decide ((c :: r).take ([40, 42] : Str).length = [40, 42])) = lxOpens (c :: r) := by
        cases r with
        | nil => rfl
        | cons b r => simp [lxOpens, Bool.decide_and]
      rw [hop] at hpre
      have hrem := lex_remark_spec pre (c :: r) (by rw [h]; omega) s
      rw [h] at hrem
      simp only [go_sem, Nat.reduceAdd, Nat.reduceLeDiff, Nat.reduceSub, Nat.reduceMul, Nat.reduceEqDiff, Int.reduceEq, Int.reduceLT, Int.reduceLE, Int.reduceAdd, Int.reduceSub, Int.reduceNeg, Int.reduceGT, Int.reduceGE, Int.reduceNe, ne_eq, not_false_eq_true, hb, indexS_str T_string_k hc, indexByte_spec, blank_eq, hfrom, hpre, hrem, a.list?]
      unfold scanF
      cases hbl : blankC c
      · simp only [go_sem, Nat.reduceAdd, Nat.reduceLeDiff, Nat.reduceSub, Nat.reduceMul, Nat.reduceEqDiff, Int.reduceEq, Int.reduceLT, Int.reduceLE, Int.reduceAdd, Int.reduceSub, Int.reduceNeg, Int.reduceGT, Int.reduceGE, Int.reduceNe, ne_eq, not_false_eq_true]
        cases hop2 : lxOpens (c :: r)
        · simp only [go_sem, Nat.reduceAdd, Nat.reduceLeDiff, Nat.reduceSub, Nat.reduceMul, Nat.reduceEqDiff, Int.reduceEq, Int.reduceLT, Int.reduceLE, Int.reduceAdd, Int.reduceSub, Int.reduceNeg, Int.reduceGT, Int.reduceGE, Int.reduceNe, ne_eq, not_false_eq_true]
          cases hge : decide (acc.length ≥ 16384)
          · have hge' : decide ((acc.length : Int) ≥ 16384) = false := by simp at hge ⊢; omega
            have hone := lex_one_spec (c :: r) (tildeL acc) (by simp) (by simp; omega) s
            have hp := oneA_pre (c :: r) (tildeL acc) (by simp)
            simp only [go_sem, Nat.reduceAdd, Nat.reduceLeDiff, Nat.reduceSub, Nat.reduceMul, Nat.reduceEqDiff, Int.reduceEq, Int.reduceLT, Int.reduceLE, Int.reduceAdd, Int.reduceSub, Int.reduceNeg, Int.reduceGT, Int.reduceGE, Int.reduceNe, ne_eq, not_false_eq_true, hge']
            rcases Nat.eq_zero_or_pos acc.length with h0 | h0
            case' inl =>
              have hz : decide ((acc.length : Int) > 0) = false := by simp [h0]
              have ht : tildeL acc = false := by unfold tildeL; rw [decide_eq_false (by omega)]; rfl
              rw [ht] at hone hp ⊢
              simp only [go_sem, Nat.reduceAdd, Nat.reduceLeDiff, Nat.reduceSub, Nat.reduceMul, Nat.reduceEqDiff, Int.reduceEq, Int.reduceLT, Int.reduceLE, Int.reduceAdd, Int.reduceSub, Int.reduceNeg, Int.reduceGT, Int.reduceGE, Int.reduceNe, ne_eq, not_false_eq_true, hz, hone]
              generalize oneA (c :: r) false = z at hp
            case' inr =>
              have hz : decide ((acc.length : Int) > 0) = true := by simp; omega
              have ht : tildeL acc = decide ((acc.getLastD .zero).text = [126]) := by unfold tildeL; rw [decide_eq_true h0]; rfl
              rw [ht] at hone hp ⊢
              simp only [go_sem, Nat.reduceAdd, Nat.reduceLeDiff, Nat.reduceSub, Nat.reduceMul, Nat.reduceEqDiff, Int.reduceEq, Int.reduceLT, Int.reduceLE, Int.reduceAdd, Int.reduceSub, Int.reduceNeg, Int.reduceGT, Int.reduceGE, Int.reduceNe, ne_eq, not_false_eq_true, hz]
              rw [wrap64 (by omega) (by omega), last_facts a.list? h0]
              simp only [go_sem, Nat.reduceAdd, Nat.reduceLeDiff, Nat.reduceSub, Nat.reduceMul, Nat.reduceEqDiff, Int.reduceEq, Int.reduceLT, Int.reduceLE, Int.reduceAdd, Int.reduceSub, Int.reduceNeg, Int.reduceGT, Int.reduceGE, Int.reduceNe, ne_eq, not_false_eq_true, hone, LTok.cells]
              generalize oneA (c :: r) (decide ((acc.getLastD .zero).text = [126])) = z at hp
            all_goals
              obtain ⟨e, k, p, t, m⟩ := z
              simp only [go_sem, Nat.reduceAdd, Nat.reduceLeDiff, Nat.reduceSub, Nat.reduceMul, Nat.reduceEqDiff, Int.reduceEq, Int.reduceLT, Int.reduceLE, Int.reduceAdd, Int.reduceSub, Int.reduceNeg, Int.reduceGT, Int.reduceGE, Int.reduceNe, ne_eq, not_false_eq_true, LTok.cells_mk]
              cases he : decide (e = 0)
              · simp only [go_sem, Nat.reduceAdd, Nat.reduceLeDiff, Nat.reduceSub, Nat.reduceMul, Nat.reduceEqDiff, Int.reduceEq, Int.reduceLT, Int.reduceLE, Int.reduceAdd, Int.reduceSub, Int.reduceNeg, Int.reduceGT, Int.reduceGE, Int.reduceNe, ne_eq, not_false_eq_true, LTok.enc, LTok.cells_mk]
                have := scan_end acc x s0 s a e pre.length
                rw [he] at this
                exact this
              · obtain ⟨hp1, hp2, hp3⟩ := hp (of_decide_eq_true he)
                simp only at hp1 hp2 hp3
                obtain ⟨x', s', ha, a'⟩ := tokAcc (b := ⟨k, pre.length, t, m⟩) a (by omega)
                have ht1 := hp1.length_le
                have ht0 : 0 < t.length := List.length_pos_iff.2 hp2
                simp only [List.length_cons] at ht1
                simp only [LTok.enc, LTok.cells_mk] at ha
                simp only [go_sem, Nat.reduceAdd, Nat.reduceLeDiff, Nat.reduceSub, Nat.reduceMul, Nat.reduceEqDiff, Int.reduceEq, Int.reduceLT, Int.reduceLE, Int.reduceAdd, Int.reduceSub, Int.reduceNeg, Int.reduceGT, Int.reduceGE, Int.reduceNe, ne_eq, not_false_eq_true, LTok.enc, LTok.cells_mk, ha]
                rw [wrap64 (by omega) (by omega)]
                exact ih ((c :: r).drop t.length) (pre ++ (c :: r).take t.length) _ x' s' (pre.length + t.length) (by simp; omega) (by rw [List.append_assoc, List.take_append_drop, h]) (by simp; omega) a' (by simp; omega)
          · have hge' : decide ((acc.length : Int) ≥ 16384) = true := by simp at hge ⊢; omega
            simp only [go_sem, Nat.reduceAdd, Nat.reduceLeDiff, Nat.reduceSub, Nat.reduceMul, Nat.reduceEqDiff, Int.reduceEq, Int.reduceLT, Int.reduceLE, Int.reduceAdd, Int.reduceSub, Int.reduceNeg, Int.reduceGT, Int.reduceGE, Int.reduceNe, ne_eq, not_false_eq_true, hge']
            exact scan_end acc x s0 s a 4 pre.length
        · simp only [go_sem, Nat.reduceAdd, Nat.reduceLeDiff, Nat.reduceSub, Nat.reduceMul, Nat.reduceEqDiff, Int.reduceEq, Int.reduceLT, Int.reduceLE, Int.reduceAdd, Int.reduceSub, Int.reduceNeg, Int.reduceGT, Int.reduceGE, Int.reduceNe, ne_eq, not_false_eq_true]
          cases hcom : lxCom 0 (c :: r) with
          | none =>
            simp only [go_sem, Nat.reduceAdd, Nat.reduceLeDiff, Nat.reduceSub, Nat.reduceMul, Nat.reduceEqDiff, Int.reduceEq, Int.reduceLT, Int.reduceLE, Int.reduceAdd, Int.reduceSub, Int.reduceNeg, Int.reduceGT, Int.reduceGE, Int.reduceNe, ne_eq, not_false_eq_true]
            exact scan_end acc x s0 s a 12 pre.length
          | some k =>
            have hk := com_le _ _ _ hcom
            simp only [List.length_cons] at hk
            have hneg : decide (((pre.length + k : Nat) : Int) < 0) = false := by simp; omega
            simp only [go_sem, Nat.reduceAdd, Nat.reduceLeDiff, Nat.reduceSub, Nat.reduceMul, Nat.reduceEqDiff, Int.reduceEq, Int.reduceLT, Int.reduceLE, Int.reduceAdd, Int.reduceSub, Int.reduceNeg, Int.reduceGT, Int.reduceGE, Int.reduceNe, ne_eq, not_false_eq_true, hneg]
            exact ih ((c :: r).drop k) (pre ++ (c :: r).take k) acc x s (pre.length + k) (by simp; omega) (by rw [List.append_assoc, List.take_append_drop, h]) (by simp; omega) a (by simp; omega)
      · simp only [go_sem, Nat.reduceAdd, Nat.reduceLeDiff, Nat.reduceSub, Nat.reduceMul, Nat.reduceEqDiff, Int.reduceEq, Int.reduceLT, Int.reduceLE, Int.reduceAdd, Int.reduceSub, Int.reduceNeg, Int.reduceGT, Int.reduceGE, Int.reduceNe, ne_eq, not_false_eq_true]
        rw [wrap64 (by omega) (by omega)]
        exact ih r (pre ++ [c]) acc x s (pre.length + 1) (by omega) (by simp [h]) (by simp) a (by simp; omega)
theorem lex_Scan_spec (L : Str) (hl : L.length < 2^60) (s : St) : ∃ nl s', cw (.f F_lex_Scan) [.str L] s = some (.ret (.val (.tup [encS nl ((lxScan L).1.map LTok.enc), badEnc (lxScan L).2.1 (lxScan L).2.2])), s') ∧ Grew s s' := by
  rw [lex_Scan_eq]
  unfold lxScan
  simp only [go_sem, Nat.reduceAdd, Nat.reduceLeDiff, Nat.reduceSub, Nat.reduceMul, Nat.reduceEqDiff, Int.reduceEq, Int.reduceLT, Int.reduceLE, Int.reduceAdd, Int.reduceSub, Int.reduceNeg, Int.reduceGT, Int.reduceGE, Int.reduceNe, ne_eq, not_false_eq_true]
  cases hb : decide ((L.length : Int) > 65536)
  · simp only [go_sem, Nat.reduceAdd, Nat.reduceLeDiff, Nat.reduceSub, Nat.reduceMul, Nat.reduceEqDiff, Int.reduceEq, Int.reduceLT, Int.reduceLE, Int.reduceAdd, Int.reduceSub, Int.reduceNeg, Int.reduceGT, Int.reduceGE, Int.reduceNe, ne_eq, not_false_eq_true]
    exact scan_loop L (by simp at hb; omega) s (L.length + 1) L [] [] (.val .nils) s 0 (by omega) rfl rfl (AccR.nil _ _) (by simp)
  · simp only [go_sem, Nat.reduceAdd, Nat.reduceLeDiff, Nat.reduceSub, Nat.reduceMul, Nat.reduceEqDiff, Int.reduceEq, Int.reduceLT, Int.reduceLE, Int.reduceAdd, Int.reduceSub, Int.reduceNeg, Int.reduceGT, Int.reduceGE, Int.reduceNe, ne_eq, not_false_eq_true]
    exact ⟨true, s, rfl, .refl s⟩
end Go.Proofs.YtadhckhgemongaaDoor

namespace Go.Proofs.YtadhckhgemongaaDoor
open Go Go.Am
set_option linter.unusedVariables false
set_option maxRecDepth 4000
theorem ref04_Words_spec (s : St) : cw (.f F_ref04_Words) [] s = some (.ret (.full (lwords.map .str)), s) := by
  rw [ref04_Words_eq]; simp only [go_sem, Nat.reduceAdd, Nat.reduceLeDiff, Nat.reduceSub, Nat.reduceMul, Nat.reduceEqDiff, Int.reduceEq, Int.reduceLT, Int.reduceLE, Int.reduceAdd, Int.reduceSub, Int.reduceNeg, Int.reduceGT, Int.reduceGE, Int.reduceNe, ne_eq, not_false_eq_true]; rfl
theorem ref04_Signs_spec (s : St) : cw (.f F_ref04_Signs) [] s = some (.ret (.full (lsigns.map .str)), s) := by
  rw [ref04_Signs_eq]; simp only [go_sem, Nat.reduceAdd, Nat.reduceLeDiff, Nat.reduceSub, Nat.reduceMul, Nat.reduceEqDiff, Int.reduceEq, Int.reduceLT, Int.reduceLE, Int.reduceAdd, Int.reduceSub, Int.reduceNeg, Int.reduceGT, Int.reduceGE, Int.reduceNe, ne_eq, not_false_eq_true]; rfl
end Go.Proofs.YtadhckhgemongaaDoor

namespace Go.Proofs.YtadhckhgemongaaDoor
open Go Go.Am
set_option linter.unusedVariables false
set_option maxRecDepth 4000
theorem clone_spec (l : List Str) (h0 : l ≠ []) (hl : l.length < 2^20) (s : St) : ∃ x s', cw (.f F_slices_Clone_Sstring_string) [.sl (l.map .str)] s = some (.ret x, s') ∧ x.list? = some (l.map .str) ∧ Grew s s' := by
  rw [slices_Clone_Sstring_string_eq]
  have hn : binS (C.ti T_S_string) .eql (.val (.sl (l.map .str))) (.val .nils) = some (.val (.bool false)) := by simp only [binS, av_val, eqS, T_S_string_k]; rfl
  obtain ⟨x, s', h1, h2⟩ := AccR.appendF (f := AV.str) (t := C.ti T_string) (A := []) (B := l) (y := .val (.sl (l.map .str))) (AccR.full T_string s []) rfl (fun a => by rw [T_string_size]; rfl) (by rw [T_string_size]; decide) (by simp; omega) (by rw [T_string_bytes]; decide)
  simp only [go_sem, Nat.reduceAdd, Nat.reduceLeDiff, Nat.reduceSub, Nat.reduceMul, Nat.reduceEqDiff, Int.reduceEq, Int.reduceLT, Int.reduceLE, Int.reduceAdd, Int.reduceSub, Int.reduceNeg, Int.reduceGT, Int.reduceGE, Int.reduceNe, ne_eq, not_false_eq_true, hn, h1]
  exact ⟨x, s', rfl, by simpa using h2.list?, h2.grew⟩
theorem lex_Words_spec (s : St) : ∃ x s', cw (.f F_lex_Words) [] s = some (.ret x, s') ∧ x.list? = some (lwords.map .str) ∧ Grew s s' := by
  rw [lex_Words_eq, words_slice]
  obtain ⟨x, s', h1, h2, h3⟩ := clone_spec lwords (by decide) (by decide) s
  simp only [go_sem, Nat.reduceAdd, Nat.reduceLeDiff, Nat.reduceSub, Nat.reduceMul, Nat.reduceEqDiff, Int.reduceEq, Int.reduceLT, Int.reduceLE, Int.reduceAdd, Int.reduceSub, Int.reduceNeg, Int.reduceGT, Int.reduceGE, Int.reduceNe, ne_eq, not_false_eq_true, h1]
  exact ⟨x, s', rfl, h2, h3⟩
theorem lex_Signs_spec (s : St) : ∃ x s', cw (.f F_lex_Signs) [] s = some (.ret x, s') ∧ x.list? = some (lsigns.map .str) ∧ Grew s s' := by
  rw [lex_Signs_eq, signs_slice]
  obtain ⟨x, s', h1, h2, h3⟩ := clone_spec lsigns (by decide) (by decide) s
  simp only [go_sem, Nat.reduceAdd, Nat.reduceLeDiff, Nat.reduceSub, Nat.reduceMul, Nat.reduceEqDiff, Int.reduceEq, Int.reduceLT, Int.reduceLE, Int.reduceAdd, Int.reduceSub, Int.reduceNeg, Int.reduceGT, Int.reduceGE, Int.reduceNe, ne_eq, not_false_eq_true, h1]
  exact ⟨x, s', rfl, h2, h3⟩
theorem beqi (x y : Int) : (x == y) = decide (x = y) := by rw [Bool.eq_iff_iff]; simp
theorem bad_eql (a b c d : Int) (x y : Str) : binS (C.ti T_Bad) .eql (.val (.agg [.int .i64 a, .int .i64 b, .str x])) (.val (.agg [.int .i64 c, .int .i64 d, .str y])) = some (.val (.bool (decide (a = c) && (decide (b = d) && decide (x = y))))) := by
  simp only [binS, av_val, eqS, T_Bad_k, T_Bad_flat, List.isEmpty_cons, cond_false, eqAll, TK.has, decide_true, Bool.and_self, cond_true, AV.eqb, if_true, beqd, beqi]
  generalize decide (a = c) = p; generalize decide (b = d) = q; generalize decide (x = y) = r
  cases p <;> cases q <;> cases r <;> rfl
def know1 : Str := [118, 97, 108, 32, 120, 39, 61, 126, 49, 50, 40, 42, 97, 40, 42, 98, 42, 41, 42, 41]
theorem know1_scan : lxScan know1 = ([⟨5, 0, [118, 97, 108], 0⟩, ⟨2, 4, [120, 39], 0⟩, ⟨6, 6, [61], 0⟩, ⟨6, 7, [126], 0⟩, ⟨1, 8, [49, 50], 12⟩], 0, 0) := by decide +kernel
theorem know2_scan : lxScan [97, 32, 40, 42, 32, 98] = ([], 12, 2) := by decide +kernel
theorem law04_knows_spec (s : St) : ∃ s', cw (.f F_law04_knows) [] s = some (.ret (.val (.bool true)), s') ∧ Grew s s' := by
  rw [law04_knows_eq]
  obtain ⟨n1, s1, h1, g1⟩ := lex_Scan_spec know1 (by decide) s
  rw [know1_scan] at h1
  obtain ⟨n2, s2, h2, g2⟩ := lex_Scan_spec [97, 32, 40, 42, 32, 98] (by decide) s1
  rw [know2_scan] at h2
  obtain ⟨x3, s3, h3, l3, g3⟩ := lex_Words_spec s2
  obtain ⟨x4, s4, h4, l4, g4⟩ := lex_Signs_spec s3
  unfold know1 at h1
  simp only [badEnc, LTok.enc, LTok.cells_mk, List.map_cons, List.map_nil, encS_cons] at h1 h2
  have e5 : decide (((5 : Nat) : Int) = 5) = true := rfl
  have e24 : decide (((lwords.length : Nat) : Int) = 24) = true := by decide
  have e19 : decide (((lsigns.length : Nat) : Int) = 19) = true := by decide
  have ix1 : ixS 4 (.val (.sl [.agg [.int .i64 5, .int .i64 0, .str [118, 97, 108], .int .i64 0], .agg [.int .i64 2, .int .i64 4, .str [120, 39], .int .i64 0], .agg [.int .i64 6, .int .i64 6, .str [61], .int .i64 0], .agg [.int .i64 6, .int .i64 7, .str [126], .int .i64 0], .agg [.int .i64 1, .int .i64 8, .str [49, 50], .int .i64 12]])) (.val (.int .i64 1)) = some (.val (.cp [.int .i64 2, .int .i64 4, .str [120, 39], .int .i64 0])) := rfl
  have ix4 : ixS 4 (.val (.sl [.agg [.int .i64 5, .int .i64 0, .str [118, 97, 108], .int .i64 0], .agg [.int .i64 2, .int .i64 4, .str [120, 39], .int .i64 0], .agg [.int .i64 6, .int .i64 6, .str [61], .int .i64 0], .agg [.int .i64 6, .int .i64 7, .str [126], .int .i64 0], .agg [.int .i64 1, .int .i64 8, .str [49, 50], .int .i64 12]])) (.val (.int .i64 4)) = some (.val (.cp [.int .i64 1, .int .i64 8, .str [49, 50], .int .i64 12])) := rfl
  simp only [go_sem, Nat.reduceAdd, Nat.reduceLeDiff, Nat.reduceSub, Nat.reduceMul, Nat.reduceEqDiff, Int.reduceEq, Int.reduceLT, Int.reduceLE, Int.reduceAdd, Int.reduceSub, Int.reduceNeg, Int.reduceGT, Int.reduceGE, Int.reduceNe, ne_eq, not_false_eq_true, h1, h2, h3, h4, l3, l4, bad_eql, ix1, ix4, e5, e24, e19]
  exact ⟨s4, rfl, ((g1.trans g2).trans g3).trans g4⟩
end Go.Proofs.YtadhckhgemongaaDoor

namespace Go.Am
open Go
def showL (l : List LTok) : Str := Go.Lib.join (l.map LTok.text) [32]
def totL (l : List LTok) : Nat := (l.map fun t => t.text.length + 1).sum
theorem join_snoc (p : List Str) (x : Str) (sep : Str) (h : p ≠ []) : Go.Lib.join (p ++ [x]) sep = Go.Lib.join p sep ++ (sep ++ x) := by
  obtain ⟨a, q, rfl⟩ := List.exists_cons_of_ne_nil h
  rw [List.cons_append, Go.Lib.join_cons, Go.Lib.join_cons]
  simp [Go.Lib.joinTail]
theorem totL_append (a b : List LTok) : totL (a ++ b) = totL a + totL b := by simp [totL]
theorem totL_len (l : List LTok) : l.length ≤ totL l := by
  induction l with
  | nil => simp [totL]
  | cons a l ih => simp only [totL, List.map_cons, List.sum_cons, List.length_cons] at ih ⊢; omega
theorem showL_le (l : List LTok) : (showL l).length ≤ totL l := by
  cases l with
  | nil => simp [showL, Go.Lib.join_nil]
  | cons a l =>
    unfold showL
    rw [List.map_cons, Go.Lib.join_cons, List.length_append]
    have : ∀ l : List LTok, (Go.Lib.joinTail [32] (l.map LTok.text)).length = totL l := by
      intro l
      induction l with
      | nil => simp [Go.Lib.joinTail, totL]
      | cons b l ih =>
        simp only [Go.Lib.joinTail, totL, List.map_cons, List.flatten_cons, List.length_append, List.sum_cons, List.length_cons, List.length_nil] at ih ⊢
        omega
    rw [this]
    simp only [totL, List.map_cons, List.sum_cons]
    omega
theorem showL_snoc (p : List LTok) (t : LTok) : showL (p ++ [t]) = bif decide (0 < p.length) then showL p ++ [32] ++ t.text else t.text := by
  cases p with
  | nil => simp [showL, Go.Lib.join_one]
  | cons a p =>
    unfold showL
    rw [List.map_append, List.map_cons (l := []), List.map_nil, join_snoc _ _ _ (by simp)]
    simp
end Go.Am

namespace Go.Proofs.YtadhckhgemongaaDoor
open Go Go.Am
set_option linter.unusedVariables false
set_option maxRecDepth 4000
theorem strL_map : ∀ l : List Str, strL (l.map AV.str) = some l
  | [] => rfl
  | a :: l => by simp only [List.map_cons, strL, strL_map l]
theorem join_spec (l : List Str) (a : AV) (ha : (Slot.val a).list? = some (l.map .str)) (h1 : l.length ≤ 140737488355328) (h2 : (Go.Lib.join l [32]).length ≤ 140737488355328) (s : St) : cw (.f F_strings_Join) [a, .str [32]] s = some (.ret (.val (.str (Go.Lib.join l [32]))), s) := by
  have e : C.ext F_strings_Join = some extJoin := by kernel_rfl
  rw [cw, callw_f]; unfold callR; rw [e]
  simp only [extJoin, ha, strL_map]
  rw [if_pos ⟨h1, h2⟩]
theorem make_acc (et : TypeId) (t : TI) (s : St) (n : Int) (h0 : 0 ≤ n) (hn : n < 2^40) (hb : t.bytes ≤ 64) (hs : t.size = 1) (z : AV) (hz : ofCells t t.zero = some z) :
    ∃ x s', makeS et t s (.val (.int .i64 0)) (.val (.int .i64 n)) = some (x, s') ∧ AccR et s s' x [] := by
  have h1 : n * (t.bytes : Int) ≤ n * 64 := Int.mul_le_mul_of_nonneg_left (by omega) h0
  refine ⟨.own s.toks.length et [], { s with toks := s.toks ++ [0] }, ?_, ⟨(Grew.refl s).pushTok 0, .inr (.inr ⟨s.toks.length, rfl, Nat.le_refl _, by simp⟩)⟩⟩
  simp only [makeS, hz]
  rw [if_pos ⟨Int.le_refl _, h0, by omega, by omega, by omega⟩]
  rfl
theorem lexShow_loop (L : List LTok) (a : AV) (ha : (Slot.val a).list? = some (L.map LTok.enc)) (hl : totL L < 2^28) (s0 : St) : ∀ (suf pre : List LTok) (x : Slot) (s : St) (i : Nat), pre ++ suf = L → i = pre.length → AccR T_string s0 s x ((pre.map LTok.text).map .str) →
    ∃ s', lex_Show_l0 x (.val a) (.val (.int .i64 (L.length : Int))) (.val (.int .i64 (i : Int))) s = some (.ret (.val (.str (showL L))), s') ∧ Grew s0 s' := by
  have hlen := totL_len L
  have hsh := showL_le L
  intro suf
  induction suf with
  | nil =>
    intro pre x s i h hi ac
    rw [List.append_nil] at h
    subst h hi
    obtain ⟨nl, hx⟩ := ac.av
    have hj := join_spec (pre.map LTok.text) (encS nl ((pre.map LTok.text).map .str)) (list?_encS _ _) (by simp; omega) (by unfold showL at hsh; omega) s
    rw [lex_Show_l0_eq]
    simp only [List.map_map] at hj hx
    simp only [go_sem, Nat.reduceAdd, Nat.reduceLeDiff, Nat.reduceSub, Nat.reduceMul, Nat.reduceEqDiff, Int.reduceEq, Int.reduceLT, Int.reduceLE, Int.reduceAdd, Int.reduceSub, Int.reduceNeg, Int.reduceGT, Int.reduceGE, Int.reduceNe, ne_eq, not_false_eq_true, Int.lt_irrefl, avs_cons hx, hj]
    exact ⟨s, rfl, ac.grew⟩
  | cons c suf ih =>
    intro pre x s i h hi ac
    subst hi
    obtain ⟨f1, f2, f3⟩ := step_facts (f := LTok.enc) (x := .val a) (sz := 4) ha h (by omega) (LTok.cells_len _) (by decide)
    have hpl : pre.length < L.length := by rw [← h]; simp
    obtain ⟨x', s', ha2, ac'⟩ := AccR.appendF (f := AV.str) (t := C.ti T_string) (A := pre.map LTok.text) (B := [c.text]) (y := .full [.str c.text]) ac rfl (fun a => by rw [T_string_size]; rfl) (by rw [T_string_size]; decide) (by simp; omega) (by rw [T_string_bytes]; decide)
    obtain ⟨s2, h2, g2⟩ := ih (pre ++ [c]) x' s' (pre.length + 1) (by simp [h]) (by simp) (by simpa using ac')
    obtain ⟨c1, c2, c3, c4⟩ := c
    rw [lex_Show_l0_eq]
    simp only [LTok.enc, LTok.cells_mk] at f2
    simp only at ha2
    simp only [go_sem, Nat.reduceAdd, Nat.reduceLeDiff, Nat.reduceSub, Nat.reduceMul, Nat.reduceEqDiff, Int.reduceEq, Int.reduceLT, Int.reduceLE, Int.reduceAdd, Int.reduceSub, Int.reduceNeg, Int.reduceGT, Int.reduceGE, Int.reduceNe, ne_eq, not_false_eq_true, f1, f2, f3, ha2]
    exact ⟨s2, h2, g2⟩
theorem lex_Show_spec (L : List LTok) (a : AV) (ha : (Slot.val a).list? = some (L.map LTok.enc)) (hl : totL L < 2^28) (s : St) : ∃ s', cw (.f F_lex_Show) [a] s = some (.ret (.val (.str (showL L))), s') ∧ Grew s s' := by
  have hlen := totL_len L
  obtain ⟨x, s1, h1, a1⟩ := make_acc T_string (C.ti T_string) s (L.length : Int) (by omega) (by omega) (by rw [T_string_bytes]; decide) T_string_size (.str []) (by rw [T_string_zero]; rfl)
  obtain ⟨s2, h2, g2⟩ := lexShow_loop L a ha hl s L [] x s1 0 rfl rfl a1
  rw [lex_Show_eq]
  simp only [go_sem, Nat.reduceAdd, Nat.reduceLeDiff, Nat.reduceSub, Nat.reduceMul, Nat.reduceEqDiff, Int.reduceEq, Int.reduceLT, Int.reduceLE, Int.reduceAdd, Int.reduceSub, Int.reduceNeg, Int.reduceGT, Int.reduceGE, Int.reduceNe, ne_eq, not_false_eq_true, ha, h1]
  exact ⟨s2, h2, g2⟩
theorem rShow_loop (L : List LTok) (a : AV) (ha : (Slot.val a).list? = some (L.map LTok.enc)) (hl : totL L < 2^28) : ∀ (suf pre : List LTok) (s : St) (i : Nat), pre ++ suf = L → i = pre.length →
    ref04_Show_l0 (.val a) (.val (.str (showL pre))) (.val (.int .i64 (L.length : Int))) (.val (.int .i64 (i : Int))) s = some (.ret (.val (.str (showL L))), s) := by
  have hlen := totL_len L
  intro suf
  induction suf with
  | nil =>
    intro pre s i h hi
    rw [List.append_nil] at h
    subst h hi
    rw [ref04_Show_l0_eq]
    simp only [go_sem, Nat.reduceAdd, Nat.reduceLeDiff, Nat.reduceSub, Nat.reduceMul, Nat.reduceEqDiff, Int.reduceEq, Int.reduceLT, Int.reduceLE, Int.reduceAdd, Int.reduceSub, Int.reduceNeg, Int.reduceGT, Int.reduceGE, Int.reduceNe, ne_eq, not_false_eq_true, Int.lt_irrefl]
  | cons c suf ih =>
    intro pre s i h hi
    subst hi
    obtain ⟨f1, f2, f3⟩ := step_facts (f := LTok.enc) (x := .val a) (sz := 4) ha h (by omega) (LTok.cells_len _) (by decide)
    have ih1 := ih (pre ++ [c]) s (pre.length + 1) (by simp [h]) (by simp)
    rw [showL_snoc] at ih1
    have htot : totL pre + (c.text.length + 1) ≤ totL L := by
      rw [← h, totL_append, show totL (c :: suf) = c.text.length + 1 + totL suf from by simp [totL]]; omega
    have hsl := showL_le pre
    obtain ⟨c1, c2, c3, c4⟩ := c
    simp only at htot ih1
    rw [ref04_Show_l0_eq]
    simp only [LTok.enc, LTok.cells_mk] at f2
    have hgt : decide ((pre.length : Int) > 0) = decide (0 < pre.length) := by rw [decide_eq_decide]; omega
    simp only [go_sem, Nat.reduceAdd, Nat.reduceLeDiff, Nat.reduceSub, Nat.reduceMul, Nat.reduceEqDiff, Int.reduceEq, Int.reduceLT, Int.reduceLE, Int.reduceAdd, Int.reduceSub, Int.reduceNeg, Int.reduceGT, Int.reduceGE, Int.reduceNe, ne_eq, not_false_eq_true, f1, hgt]
    cases hp : decide (0 < pre.length)
    · rw [hp] at ih1
      have hnil : pre = [] := by simp at hp; exact hp
      have hsp : showL pre = [] := by rw [hnil]; rfl
      have hadd := binS_sadd (t := C.ti T_string) (x := showL pre) (y := c3) (by omega)
      simp only [cond_false] at ih1
      simp only [ifR_false]
      rw [ref04_Show_j0_eq]
      simp only [T_Tok_size, f2, bind1_some, cells_agg, faV_cp, T_string_size, ldV_cp, List.drop_succ_cons, List.drop_zero, List.take_succ_cons, List.take_zero, ofCells_one T_string_agg, Option.map_some, hadd, binS_add, f3]
      rw [hsp, List.nil_append]
      exact ih1
    · rw [hp] at ih1
      have hadd1 := binS_sadd (t := C.ti T_string) (x := showL pre) (y := [32]) (by simp; omega)
      have hadd := binS_sadd (t := C.ti T_string) (x := showL pre ++ [32]) (y := c3) (by simp; omega)
      rw [hadd1]
      simp only [bind1_some, ifR_true]
      simp only [cond_true] at ih1
      rw [ref04_Show_j0_eq]
      simp only [T_Tok_size, f2, bind1_some, cells_agg, faV_cp, T_string_size, ldV_cp, List.drop_succ_cons, List.drop_zero, List.take_succ_cons, List.take_zero, ofCells_one T_string_agg, Option.map_some, hadd, binS_add, f3]
      exact ih1
theorem ref04_Show_spec (L : List LTok) (a : AV) (ha : (Slot.val a).list? = some (L.map LTok.enc)) (hl : totL L < 2^28) (s : St) : cw (.f F_ref04_Show) [a] s = some (.ret (.val (.str (showL L))), s) := by
  rw [ref04_Show_eq]
  simp only [go_sem, Nat.reduceAdd, Nat.reduceLeDiff, Nat.reduceSub, Nat.reduceMul, Nat.reduceEqDiff, Int.reduceEq, Int.reduceLT, Int.reduceLE, Int.reduceAdd, Int.reduceSub, Int.reduceNeg, Int.reduceGT, Int.reduceGE, Int.reduceNe, ne_eq, not_false_eq_true, ha]
  exact rShow_loop L a ha hl L [] s 0 rfl rfl
end Go.Proofs.YtadhckhgemongaaDoor

namespace Go.Proofs.YtadhckhgemongaaDoor
open Go Go.Am
set_option linter.unusedVariables false
set_option maxRecDepth 4000
theorem tables_l2 (x y : Slot) (hx : x.list? = some (lsigns.map .str)) (hy : y.list? = some (lsigns.map .str)) : ∀ (suf pre : List Str) (s : St) (i : Nat), pre ++ suf = lsigns → i = pre.length →
    ∃ s', law04_LexTables_l2 x y (.val (.int .i64 19)) (.val (.int .i64 (i : Int))) s = some (.ret (.val (.bool true)), s') ∧ Grew s s' := by
  intro suf
  induction suf with
  | nil =>
    intro pre s i h hi
    rw [List.append_nil] at h
    subst h hi
    rw [law04_LexTables_l2_eq, show ((lsigns.length : Nat) : Int) = 19 from rfl]
    obtain ⟨s3, h3, g3⟩ := law04_knows_spec s
    simp only [go_sem, Nat.reduceAdd, Nat.reduceLeDiff, Nat.reduceSub, Nat.reduceMul, Nat.reduceEqDiff, Int.reduceEq, Int.reduceLT, Int.reduceLE, Int.reduceAdd, Int.reduceSub, Int.reduceNeg, Int.reduceGT, Int.reduceGE, Int.reduceNe, ne_eq, not_false_eq_true, h3]
    exact ⟨s3, rfl, g3⟩
  | cons c suf ih =>
    intro pre s i h hi
    subst hi
    obtain ⟨f1, f2, f3⟩ := step_facts (f := AV.str) (x := x) (sz := 1) hx h (by decide) rfl (by decide)
    obtain ⟨g1, g2, g3⟩ := step_facts (f := AV.str) (x := y) (sz := 1) hy h (by decide) rfl (by decide)
    rw [show ((lsigns.length : Nat) : Int) = 19 from rfl] at f1
    have := ih (pre ++ [c]) s (pre.length + 1) (by simp [h]) (by simp)
    rw [law04_LexTables_l2_eq]
    simp only [go_sem, Nat.reduceAdd, Nat.reduceLeDiff, Nat.reduceSub, Nat.reduceMul, Nat.reduceEqDiff, Int.reduceEq, Int.reduceLT, Int.reduceLE, Int.reduceAdd, Int.reduceSub, Int.reduceNeg, Int.reduceGT, Int.reduceGE, Int.reduceNe, ne_eq, not_false_eq_true, f1, f2, f3, g2]
    exact this
theorem tables_l1 (x y u v : Slot) (hx : x.list? = some (lwords.map .str)) (hy : y.list? = some (lwords.map .str)) (hu : u.list? = some (lsigns.map .str)) (hv : v.list? = some (lsigns.map .str)) : ∀ (suf pre : List Str) (s : St) (i : Nat), pre ++ suf = lwords → i = pre.length →
    ∃ s', law04_LexTables_l1 x u y v (.val (.int .i64 24)) (.val (.int .i64 (i : Int))) s = some (.ret (.val (.bool true)), s') ∧ Grew s s' := by
  intro suf
  induction suf with
  | nil =>
    intro pre s i h hi
    rw [List.append_nil] at h
    subst h hi
    rw [law04_LexTables_l1_eq, show ((lwords.length : Nat) : Int) = 24 from rfl]
    have := tables_l2 u v hu hv lsigns [] s 0 rfl rfl
    simp only [go_sem, Nat.reduceAdd, Nat.reduceLeDiff, Nat.reduceSub, Nat.reduceMul, Nat.reduceEqDiff, Int.reduceEq, Int.reduceLT, Int.reduceLE, Int.reduceAdd, Int.reduceSub, Int.reduceNeg, Int.reduceGT, Int.reduceGE, Int.reduceNe, ne_eq, not_false_eq_true, hu, show ((lsigns.length : Nat) : Int) = 19 from rfl]
    exact this
  | cons c suf ih =>
    intro pre s i h hi
    subst hi
    obtain ⟨f1, f2, f3⟩ := step_facts (f := AV.str) (x := x) (sz := 1) hx h (by decide) rfl (by decide)
    obtain ⟨g1, g2, g3⟩ := step_facts (f := AV.str) (x := y) (sz := 1) hy h (by decide) rfl (by decide)
    rw [show ((lwords.length : Nat) : Int) = 24 from rfl] at f1
    have := ih (pre ++ [c]) s (pre.length + 1) (by simp [h]) (by simp)
    rw [law04_LexTables_l1_eq]
    simp only [go_sem, Nat.reduceAdd, Nat.reduceLeDiff, Nat.reduceSub, Nat.reduceMul, Nat.reduceEqDiff, Int.reduceEq, Int.reduceLT, Int.reduceLE, Int.reduceAdd, Int.reduceSub, Int.reduceNeg, Int.reduceGT, Int.reduceGE, Int.reduceNe, ne_eq, not_false_eq_true, f1, f2, f3, g2]
    exact this
theorem tables_l0 (L : List LTok) (a : AV) (ha : (Slot.val a).list? = some (L.map LTok.enc)) (hl : L.length < 2^30) (hs : ∀ t ∈ L, t.text.length < 2^60) : ∀ (suf pre : List LTok) (s : St) (i : Nat), pre ++ suf = L → i = pre.length → totL pre ≤ 3000 →
    ∃ s', law04_LexTables_l0 (.val a) (.val (.int .i64 (totL pre : Int))) (.val (.int .i64 (L.length : Int))) (.val (.int .i64 (i : Int))) s = some (.ret (.val (.bool true)), s') ∧ Grew s s' := by
  intro suf
  induction suf with
  | nil =>
    intro pre s i h hi ht
    rw [List.append_nil] at h
    subst h hi
    obtain ⟨x1, s1, h1, l1, g1⟩ := lex_Words_spec s
    obtain ⟨x2, s2, h2, l2, g2⟩ := lex_Signs_spec s1
    obtain ⟨s3, h3, g3⟩ := lex_Show_spec pre a ha (by omega) s2
    have h4 := ref04_Show_spec pre a ha (by omega) s3
    obtain ⟨s5, h5, g5⟩ := tables_l1 x1 (.full (lwords.map .str)) x2 (.full (lsigns.map .str)) l1 rfl l2 rfl lwords [] s3 0 rfl rfl
    rw [law04_LexTables_l0_eq]
    simp only [go_sem, Nat.reduceAdd, Nat.reduceLeDiff, Nat.reduceSub, Nat.reduceMul, Nat.reduceEqDiff, Int.reduceEq, Int.reduceLT, Int.reduceLE, Int.reduceAdd, Int.reduceSub, Int.reduceNeg, Int.reduceGT, Int.reduceGE, Int.reduceNe, ne_eq, not_false_eq_true, Int.lt_irrefl, h1, h2, l1, l2, ref04_Words_spec, ref04_Signs_spec, h3, h4, show ((lwords.length : Nat) : Int) = 24 from rfl, show ((lsigns.length : Nat) : Int) = 19 from rfl]
    exact ⟨s5, h5, ((g1.trans g2).trans g3).trans g5⟩
  | cons c suf ih =>
    intro pre s i h hi ht
    subst hi
    obtain ⟨f1, f2, f3⟩ := step_facts (f := LTok.enc) (x := .val a) (sz := 4) ha h (by omega) (LTok.cells_len _) (by decide)
    have hc := hs c (by rw [← h]; simp)
    have ih1 := ih (pre ++ [c]) s (pre.length + 1) (by simp [h]) (by simp)
    have htot : totL (pre ++ [c]) = totL pre + (c.text.length + 1) := by rw [totL_append]; simp [totL]
    rw [htot] at ih1
    obtain ⟨s3, h3, g3⟩ := law04_knows_spec s
    obtain ⟨c1, c2, c3, c4⟩ := c
    simp only at hc ih1
    rw [law04_LexTables_l0_eq]
    simp only [LTok.enc, LTok.cells_mk] at f2
    simp only [go_sem, Nat.reduceAdd, Nat.reduceLeDiff, Nat.reduceSub, Nat.reduceMul, Nat.reduceEqDiff, Int.reduceEq, Int.reduceLT, Int.reduceLE, Int.reduceAdd, Int.reduceSub, Int.reduceNeg, Int.reduceGT, Int.reduceGE, Int.reduceNe, ne_eq, not_false_eq_true, f1, f2, f3, h3]
    rw [wrap64 (n := (totL pre : Int) + 1) (by omega) (by omega), wrap64 (n := (totL pre : Int) + 1 + (c3.length : Int)) (by omega) (by omega)]
    have e : (totL pre : Int) + 1 + (c3.length : Int) = ((totL pre + (c3.length + 1) : Nat) : Int) := by omega
    rw [e]
    cases hb : decide (((totL pre + (c3.length + 1) : Nat) : Int) > 3000)
    · simp only [go_sem, Nat.reduceAdd, Nat.reduceLeDiff, Nat.reduceSub, Nat.reduceMul, Nat.reduceEqDiff, Int.reduceEq, Int.reduceLT, Int.reduceLE, Int.reduceAdd, Int.reduceSub, Int.reduceNeg, Int.reduceGT, Int.reduceGE, Int.reduceNe, ne_eq, not_false_eq_true]
      exact ih1 (by simp at hb; omega)
    · simp only [go_sem, Nat.reduceAdd, Nat.reduceLeDiff, Nat.reduceSub, Nat.reduceMul, Nat.reduceEqDiff, Int.reduceEq, Int.reduceLT, Int.reduceLE, Int.reduceAdd, Int.reduceSub, Int.reduceNeg, Int.reduceGT, Int.reduceGE, Int.reduceNe, ne_eq, not_false_eq_true]
      exact ⟨s3, rfl, g3⟩
theorem law04_LexTables_spec (L : List LTok) (nl : Bool) (hl : L.length < 2^30) (hs : ∀ t ∈ L, t.text.length < 2^60) (s : St) : ∃ s', cw (.f F_law04_LexTables) [encS nl (L.map LTok.enc)] s = some (.ret (.val (.bool true)), s') ∧ Grew s s' := by
  rw [law04_LexTables_eq]
  have := tables_l0 L _ (list?_encS nl _) hl hs L [] s 0 rfl rfl (by simp [totL])
  simp only [go_sem, Nat.reduceAdd, Nat.reduceLeDiff, Nat.reduceSub, Nat.reduceMul, Nat.reduceEqDiff, Int.reduceEq, Int.reduceLT, Int.reduceLE, Int.reduceAdd, Int.reduceSub, Int.reduceNeg, Int.reduceGT, Int.reduceGE, Int.reduceNe, ne_eq, not_false_eq_true]
  exact this
section
variable {H : Type}
def GTok (b : Nat) (t : LTok) : Prop := t.text.length ≤ b ∧ 1 ≤ b
def GToks (b : Nat) (l : List LTok) : Prop := l.length ≤ b ∧ ∀ t ∈ l, t.text.length ≤ b
theorem GToks.nil : GToks 0 [] := ⟨Nat.le_refl _, by simp⟩
theorem GToks.cons (m k : Nat) (t : LTok) (L : List LTok) (h : GTok m t) (g : GToks k L) : GToks (m + k) (t :: L) := by
  refine ⟨by have := h.2; have := g.1; simp only [List.length_cons]; omega, fun x hx => ?_⟩
  rcases List.mem_cons.1 hx with rfl | hx
  · have := h.1; omega
  · have := g.2 x hx; omega
theorem dec_tok : ∀ (n : Nat) (d : DataW H) l, conv C.ti n T_Tok d = some l → Rows.uptoBulk d < 2^30 → ∃ t : LTok, l = t.cells ∧ GTok (Rows.uptoBulk d) t
  | 0, d, l, h, _ => by simp [conv] at h
  | n + 1, d, l, h, hb => by
    obtain ⟨parts, ls, rfl, hf, rfl⟩ := conv_struct T_Tok_k h
    rcases parts with _ | ⟨d1, _ | ⟨d2, _ | ⟨d3, _ | ⟨d4, _ | _⟩⟩⟩⟩ <;> rcases ls with _ | ⟨l1, _ | ⟨l2, _ | ⟨l3, _ | ⟨l4, _ | _⟩⟩⟩⟩ <;> simp only [Fields, and_false] at hf
    obtain ⟨c1, c2, c3, c4, -⟩ := hf
    simp only [Rows.uptoBulk, Rows.uptoBulkAll] at hb ⊢
    obtain ⟨k, rfl, rfl, w1⟩ := conv_int T_TokKind_k c1
    obtain ⟨m, rfl, rfl, w2⟩ := conv_int T_int_k c2
    obtain ⟨s, rfl, rfl⟩ := conv_str T_string_k c3
    obtain ⟨q, rfl, rfl, w3⟩ := conv_int T_int_k c4
    simp only [Rows.uptoBulk] at hb ⊢
    exact ⟨⟨k, m, s, q⟩, rfl, by simp only []; omega, by omega⟩
theorem dec_toks (n : Nat) (d : DataW H) (l : List AV) (h : conv C.ti n T_S_Tok d = some l) (hb : Rows.uptoBulk d < 2^30) : ∃ L b, l = [encS b (L.map LTok.enc)] ∧ GToks (Rows.uptoBulk d) L := by
  cases n with
  | zero => simp [conv] at h
  | succ n =>
    obtain ⟨L, b, k, h1, h2, h3⟩ := slice_dec T_S_Tok_k T_Tok_agg GToks.nil GToks.cons (fun d l h hb => dec_tok n d l h hb) d l h hb
    exact ⟨L, b, h1, by have := h2.1; omega, fun t ht => by have := h2.2 t ht; omega⟩
end
theorem law04_LexTables_row {k0 : Nat} (x : List LTok) (b : Bool) (g : GToks k0 x) (hb : k0 + 0 ≤ 1048576) : Ret (cw (.f F_law04_LexTables) [encS b (x.map LTok.enc)] st0) st0 (.bool true) :=
  law04_LexTables_spec x b (by have := g.1; omega) (fun t ht => by have := g.2 t ht; omega) st0
end Go.Proofs.YtadhckhgemongaaDoor
