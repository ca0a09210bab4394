/- A part of the proof: SLex2, SLex3, SLex4, PLex3, PLex5, PLex6, PLex7, SLexK, SLexS, LLexBack. -/
import Derived.Test.YtadhckhgemongaaDoorM3
import Derived.Lib.Join
set_option linter.unusedVariables false
set_option linter.unusedSimpArgs false
namespace Go.Proofs.YtadhckhgemongaaDoor
open Go Go.Am
set_option linter.unusedVariables false
theorem wrapU8 {n : Int} (h : 0 ≤ n) (g : n ≤ 255) : IntKind.u8.wrap n = n := by
  unfold IntKind.wrap
  simp [IntKind.bits, IntKind.signed]
  omega
theorem convS_u8 (n : Int) : convS (C.ti T_uint8) (C.ti T_int) (.val (.int .u8 n)) = some (.val (.int .i64 (IntKind.i64.wrap n))) := by
  simp only [convS, T_int_k, T_uint8_k]
theorem dig_bounds {c : UInt8} (h : digC c = true) : (48 : Int) ≤ c.toNat ∧ (c.toNat : Int) ≤ 57 := by
  simp only [digC, digB, Bool.and_eq_true, decide_eq_true_eq] at h
  omega
theorem number_loop (L : Str) (td : Bool) (hl : L.length ≤ 10) : ∀ (suf pre : Str) (n : Int) (s : St) (i : Nat), pre ++ suf = L → i = pre.length → suf.all digC = true → 0 ≤ n → n < 10 ^ pre.length →
    lex_number_l0 (.val (.str L)) (.val (.bool td)) (.val (.int .i64 n)) (.val (.int .i64 L.length)) (.val (.int .i64 (i : Int))) s =
      some (.ret (.val (.tup [.int .i64 (numV n suf), .bool (decide (numV n suf < 1073741824) || decide (numV n suf = 1073741824) && td)])), s) := by
  intro suf
  induction suf with
  | nil =>
    intro pre n s i h hi hd h0 h1
    rw [List.append_nil] at h
    subst h hi
    rw [lex_number_l0_eq, show numV n [] = n from rfl]
    simp only [go_sem, Nat.reduceAdd, Nat.reduceLeDiff, Nat.reduceSub, Nat.reduceMul, Nat.reduceEqDiff, Int.reduceEq, Int.reduceLT, Int.reduceLE, Int.reduceAdd, Int.reduceSub, Int.reduceNeg, Int.reduceGT, Int.reduceGE, Int.reduceNe, ne_eq, not_false_eq_true, Int.lt_irrefl]
  | cons c suf ih =>
    intro pre n s i h hi hd h0 h1
    subst hi
    have hc : L[pre.length]? = some c := by rw [← h]; simp
    have hlt : pre.length < L.length := by rw [← h]; simp
    simp only [List.all_cons, Bool.and_eq_true] at hd
    obtain ⟨b1, b2⟩ := dig_bounds hd.1
    have hp : (10 : Int) ^ pre.length ≤ 10 ^ 9 := by exact_mod_cast (Nat.pow_le_pow_right (n := 10) (by decide) (show pre.length ≤ 9 by omega))
    have hp2 : (10 : Int) ^ (pre.length + 1) = 10 * 10 ^ pre.length := by rw [Int.pow_succ, Int.mul_comm]
    have hb : decide ((pre.length : Int) < (L.length : Int)) = true := by simpa using hlt
    have := ih (pre ++ [c]) (10 * n + ((c.toNat : Int) - 48)) s (pre.length + 1) (by simp [h]) (by simp) hd.2 (by omega) (by rw [List.length_append, List.length_singleton, hp2]; omega)
    rw [lex_number_l0_eq]
    simp only [go_sem, Nat.reduceAdd, Nat.reduceLeDiff, Nat.reduceSub, Nat.reduceMul, Nat.reduceEqDiff, Int.reduceEq, Int.reduceLT, Int.reduceLE, Int.reduceAdd, Int.reduceSub, Int.reduceNeg, Int.reduceGT, Int.reduceGE, Int.reduceNe, ne_eq, not_false_eq_true, hb, indexS_str T_string_k hc]
    rw [wrapU8 (by omega) (by omega), convS_u8]
    simp only [go_sem, Nat.reduceAdd, Nat.reduceLeDiff, Nat.reduceSub, Nat.reduceMul, Nat.reduceEqDiff, Int.reduceEq, Int.reduceLT, Int.reduceLE, Int.reduceAdd, Int.reduceSub, Int.reduceNeg, Int.reduceGT, Int.reduceGE, Int.reduceNe, ne_eq, not_false_eq_true]
    rw [wrap64 (n := 10 * n) (by omega) (by omega), wrap64 (n := (c.toNat : Int) - 48) (by omega) (by omega), wrap64 (n := 10 * n + _) (by omega) (by omega), wrap64 (n := (pre.length : Int) + 1) (by omega) (by omega)]
    have e : (pre.length : Int) + 1 = ((pre.length + 1 : Nat) : Int) := by omega
    rw [e, this]
    rfl
theorem lex_number_spec (t : Str) (td : Bool) (h0 : t ≠ []) (hd : t.all digC = true) (hl : t.length < 2^62) (s : St) :
    cw (.f F_lex_number) [.str t, .bool td] s = some (.ret (.val (.tup [.int .i64 (numA t td).1, .bool (numA t td).2])), s) := by
  rw [lex_number_eq]
  have hz : decide (((t.headD 0).toNat : Int) = 48) = decide (t.headD 0 = 48) := by
    rw [decide_eq_decide]
    constructor
    · intro h; exact UInt8.toNat_inj.1 (by show _ = 48; omega)
    · intro h; rw [h]; rfl
  cases h1 : decide ((t.length : Int) > 1) && decide (t.headD 0 = 48) || decide ((t.length : Int) > 10)
  · have hn : numA t td = (numV 0 t, decide (numV 0 t < 1073741824) || decide (numV 0 t = 1073741824) && td) := by unfold numA; rw [h1]; rfl
    have hlen : t.length ≤ 10 := by
      simp only [Bool.or_eq_false_iff, decide_eq_false_iff_not] at h1; omega
    have := number_loop t td hlen t [] 0 s 0 rfl rfl hd (by decide) (by simp)
    rw [hn]
    simp only [Int.ofNat_zero] at this
    rw [← this]
    simp only [Bool.or_eq_false_iff] at h1
    obtain ⟨h2, h3⟩ := h1
    cases h4 : decide ((t.length : Int) > 1)
    · simp only [go_sem, Nat.reduceAdd, Nat.reduceLeDiff, Nat.reduceSub, Nat.reduceMul, Nat.reduceEqDiff, Int.reduceEq, Int.reduceLT, Int.reduceLE, Int.reduceAdd, Int.reduceSub, Int.reduceNeg, Int.reduceGT, Int.reduceGE, Int.reduceNe, ne_eq, not_false_eq_true, h4, h3]
    · simp only [h4, Bool.true_and] at h2
      simp only [go_sem, Nat.reduceAdd, Nat.reduceLeDiff, Nat.reduceSub, Nat.reduceMul, Nat.reduceEqDiff, Int.reduceEq, Int.reduceLT, Int.reduceLE, Int.reduceAdd, Int.reduceSub, Int.reduceNeg, Int.reduceGT, Int.reduceGE, Int.reduceNe, ne_eq, not_false_eq_true, h4, indexS_zero T_string_k h0, hz, h2, h3]
  · have hn : numA t td = (0, false) := by unfold numA; rw [h1]; rfl
    rw [hn]
    cases h4 : decide ((t.length : Int) > 1)
    · simp only [h4, Bool.false_and, Bool.false_or] at h1
      simp only [go_sem, Nat.reduceAdd, Nat.reduceLeDiff, Nat.reduceSub, Nat.reduceMul, Nat.reduceEqDiff, Int.reduceEq, Int.reduceLT, Int.reduceLE, Int.reduceAdd, Int.reduceSub, Int.reduceNeg, Int.reduceGT, Int.reduceGE, Int.reduceNe, ne_eq, not_false_eq_true, h4, h1]
    · simp only [h4, Bool.true_and] at h1
      cases h2 : decide (t.headD 0 = 48)
      · simp only [h2, Bool.false_or] at h1
        simp only [go_sem, Nat.reduceAdd, Nat.reduceLeDiff, Nat.reduceSub, Nat.reduceMul, Nat.reduceEqDiff, Int.reduceEq, Int.reduceLT, Int.reduceLE, Int.reduceAdd, Int.reduceSub, Int.reduceNeg, Int.reduceGT, Int.reduceGE, Int.reduceNe, ne_eq, not_false_eq_true, h4, indexS_zero T_string_k h0, hz, h2, h1]
      · simp only [go_sem, Nat.reduceAdd, Nat.reduceLeDiff, Nat.reduceSub, Nat.reduceMul, Nat.reduceEqDiff, Int.reduceEq, Int.reduceLT, Int.reduceLE, Int.reduceAdd, Int.reduceSub, Int.reduceNeg, Int.reduceGT, Int.reduceGE, Int.reduceNe, ne_eq, not_false_eq_true, h4, indexS_zero T_string_k h0, hz, h2]
theorem lex_named_spec (t : Str) (h0 : t ≠ []) (s : St) : cw (.f F_lex_named) [.str t] s = some (.ret (.val (.int .i64 (namedA t))), s) := by
  rw [lex_named_eq, words_slice]
  simp only [go_sem, Nat.reduceAdd, Nat.reduceLeDiff, Nat.reduceSub, Nat.reduceMul, Nat.reduceEqDiff, Int.reduceEq, Int.reduceLT, Int.reduceLE, Int.reduceAdd, Int.reduceSub, Int.reduceNeg, Int.reduceGT, Int.reduceGE, Int.reduceNe, ne_eq, not_false_eq_true, contains_spec t lwords (by decide)]
  unfold namedA
  cases hasL lwords t
  · simp only [go_sem, Nat.reduceAdd, Nat.reduceLeDiff, Nat.reduceSub, Nat.reduceMul, Nat.reduceEqDiff, Int.reduceEq, Int.reduceLT, Int.reduceLE, Int.reduceAdd, Int.reduceSub, Int.reduceNeg, Int.reduceGT, Int.reduceGE, Int.reduceNe, ne_eq, not_false_eq_true]
    cases h1 : decide (t = [116, 114, 117, 101])
    · simp only [go_sem, Nat.reduceAdd, Nat.reduceLeDiff, Nat.reduceSub, Nat.reduceMul, Nat.reduceEqDiff, Int.reduceEq, Int.reduceLT, Int.reduceLE, Int.reduceAdd, Int.reduceSub, Int.reduceNeg, Int.reduceGT, Int.reduceGE, Int.reduceNe, ne_eq, not_false_eq_true]
      cases h2 : decide (t = [102, 97, 108, 115, 101])
      · simp only [go_sem, Nat.reduceAdd, Nat.reduceLeDiff, Nat.reduceSub, Nat.reduceMul, Nat.reduceEqDiff, Int.reduceEq, Int.reduceLT, Int.reduceLE, Int.reduceAdd, Int.reduceSub, Int.reduceNeg, Int.reduceGT, Int.reduceGE, Int.reduceNe, ne_eq, not_false_eq_true, indexS_zero T_string_k h0]
      · simp only [go_sem, Nat.reduceAdd, Nat.reduceLeDiff, Nat.reduceSub, Nat.reduceMul, Nat.reduceEqDiff, Int.reduceEq, Int.reduceLT, Int.reduceLE, Int.reduceAdd, Int.reduceSub, Int.reduceNeg, Int.reduceGT, Int.reduceGE, Int.reduceNe, ne_eq, not_false_eq_true]
    · simp only [go_sem, Nat.reduceAdd, Nat.reduceLeDiff, Nat.reduceSub, Nat.reduceMul, Nat.reduceEqDiff, Int.reduceEq, Int.reduceLT, Int.reduceLE, Int.reduceAdd, Int.reduceSub, Int.reduceNeg, Int.reduceGT, Int.reduceGE, Int.reduceNe, ne_eq, not_false_eq_true]
  · simp only [go_sem, Nat.reduceAdd, Nat.reduceLeDiff, Nat.reduceSub, Nat.reduceMul, Nat.reduceEqDiff, Int.reduceEq, Int.reduceLT, Int.reduceLE, Int.reduceAdd, Int.reduceSub, Int.reduceNeg, Int.reduceGT, Int.reduceGE, Int.reduceNe, ne_eq, not_false_eq_true]
theorem hasL_signs (s : Str) (n : Nat) (h : n ≤ s.length) (st : St) : cw (.f F_slices_Contains_Sstring_string) [.sl (lsigns.map .str), .str (s.take n)] st = some (.ret (.val (.bool (hasL lsigns (s.take n)))), st) := contains_spec _ _ (by decide) _
theorem sign_loop (t : Str) (s : St) : ∀ n : Nat, n ≤ t.length → n ≤ 2 → lex_sign_l0 (.val (.str t)) (.val (.int .i64 (n : Int))) s =
    some (.ret (.val (.str (bif decide (2 ≤ n) && hasL lsigns (t.take 2) then t.take 2 else bif decide (1 ≤ n) && hasL lsigns (t.take 1) then t.take 1 else []))), s)
  | 0, _, _ => by rw [lex_sign_l0_eq]; simp only [go_sem, Nat.reduceAdd, Nat.reduceLeDiff, Nat.reduceSub, Nat.reduceMul, Nat.reduceEqDiff, Int.reduceEq, Int.reduceLT, Int.reduceLE, Int.reduceAdd, Int.reduceSub, Int.reduceNeg, Int.reduceGT, Int.reduceGE, Int.reduceNe, ne_eq, not_false_eq_true]; try rfl
  | n + 1, h, h2 => by
    rw [lex_sign_l0_eq, signs_slice]
    have hb : decide (((n + 1 : Nat) : Int) > 0) = true := by simp
    simp only [go_sem, Nat.reduceAdd, Nat.reduceLeDiff, Nat.reduceSub, Nat.reduceMul, Nat.reduceEqDiff, Int.reduceEq, Int.reduceLT, Int.reduceLE, Int.reduceAdd, Int.reduceSub, Int.reduceNeg, Int.reduceGT, Int.reduceGE, Int.reduceNe, ne_eq, not_false_eq_true, hb, sliceS_to T_string_k h, hasL_signs t (n + 1) h]
    have e : ((n + 1 : Nat) : Int) - 1 = (n : Int) := by omega
    rw [e, wrap64 (by omega) (by omega), sign_loop t s n (by omega) (by omega)]
    rcases Nat.lt_or_ge n 1 with hn | hn
    · obtain rfl : n = 0 := by omega
      simp only [go_sem, Nat.reduceAdd, Nat.reduceLeDiff, Nat.reduceSub, Nat.reduceMul, Nat.reduceEqDiff, Int.reduceEq, Int.reduceLT, Int.reduceLE, Int.reduceAdd, Int.reduceSub, Int.reduceNeg, Int.reduceGT, Int.reduceGE, Int.reduceNe, ne_eq, not_false_eq_true]
      try (cases hasL lsigns (t.take 1) <;> rfl)
    · obtain rfl : n = 1 := by omega
      simp only [go_sem, Nat.reduceAdd, Nat.reduceLeDiff, Nat.reduceSub, Nat.reduceMul, Nat.reduceEqDiff, Int.reduceEq, Int.reduceLT, Int.reduceLE, Int.reduceAdd, Int.reduceSub, Int.reduceNeg, Int.reduceGT, Int.reduceGE, Int.reduceNe, ne_eq, not_false_eq_true]
      try (cases hasL lsigns (t.take 2) <;> rfl)
theorem lex_sign_spec (t : Str) (hl : t.length < 2^62) (s : St) : cw (.f F_lex_sign) [.str t] s = some (.ret (.val (.str (signA t))), s) := by
  rw [lex_sign_eq]
  have hm : min2 (.val (.int .i64 2)) (.val (.int .i64 (t.length : Int))) = some (.val (.int .i64 ((min 2 t.length : Nat) : Int))) := by
    simp only [min2]
    congr 4
    split <;> omega
  simp only [go_sem, Nat.reduceAdd, Nat.reduceLeDiff, Nat.reduceSub, Nat.reduceMul, Nat.reduceEqDiff, Int.reduceEq, Int.reduceLT, Int.reduceLE, Int.reduceAdd, Int.reduceSub, Int.reduceNeg, Int.reduceGT, Int.reduceGE, Int.reduceNe, ne_eq, not_false_eq_true, hm]
  rw [sign_loop t s (min 2 t.length) (by omega) (by omega)]
  unfold signA
  have h1 : decide (2 ≤ min 2 t.length) = decide (2 ≤ t.length) := by rw [decide_eq_decide]; omega
  have h2 : decide (1 ≤ min 2 t.length) = decide (1 ≤ t.length) := by rw [decide_eq_decide]; omega
  rw [h1, h2]
end Go.Proofs.YtadhckhgemongaaDoor

namespace Go.Proofs.YtadhckhgemongaaDoor
open Go Go.Am
set_option linter.unusedVariables false
set_option maxRecDepth 4000
section
variable (t : Str) (hl : t.length < 2^60) (s : St)
include hl
theorem upto_dig : cw (.f F_lex_one_1) [.int .i64 0, .fn F_lex_digit [], .cp [.str t]] s = some (.ret (.val (.str (t.takeWhile digC))), s) :=
  upto_spec F_lex_digit digB lex_digit_spec [] t 0 rfl (by simpa using (by omega : t.length < 2^62)) s
theorem upto_amo : cw (.f F_lex_one_1) [.int .i64 0, .fn F_lex_among [], .cp [.str t]] s = some (.ret (.val (.str (t.takeWhile amoC))), s) :=
  upto_spec F_lex_among amoB lex_among_spec [] t 0 rfl (by simpa using (by omega : t.length < 2^62)) s
theorem upto_amo1 (h0 : t ≠ []) : cw (.f F_lex_one_1) [.int .i64 1, .fn F_lex_among [], .cp [.str t]] s = some (.ret (.val (.str (t.take 1 ++ (t.drop 1).takeWhile amoC))), s) := by
  have h1 : (t.take 1).length = 1 := by cases t with | nil => exact absurd rfl h0 | cons a r => rfl
  have := upto_spec F_lex_among amoB lex_among_spec (t.take 1) (t.drop 1) 1 h1.symm (by rw [List.take_append_drop]; omega) s
  rw [List.take_append_drop] at this
  exact this
end
theorem toNat_eq (c : UInt8) (n : Nat) (h : n < 256) : decide ((c.toNat : Int) = (n : Int)) = decide (c = UInt8.ofNat n) := by
  rw [decide_eq_decide]
  constructor
  · intro h'
    apply UInt8.toNat_inj.1
    simp only [UInt8.toNat_ofNat']
    omega
  · intro h'
    rw [h']
    simp only [UInt8.toNat_ofNat']
    omega
theorem lex_one_rest (t : Str) (td : Bool) (hl : t.length < 2^60) (s : St) (z : List Slot) (hz : z.length = 4) :
    lex_one_j0 (.val (.cp [.str t])) z s = some (.ret (.val (.tup [(restA t).2.enc, .int .i64 (restA t).1])), s) := by
  rw [lex_one_j0_eq]
  have hs := lex_sign_spec t (by omega) s
  obtain ⟨a, b, c, d, rfl⟩ : ∃ a b c d, z = [a, b, c, d] := by
    match z, hz with
    | [a, b, c, d], _ => exact ⟨a, b, c, d, rfl⟩
  simp only [go_sem, Nat.reduceAdd, Nat.reduceLeDiff, Nat.reduceSub, Nat.reduceMul, Nat.reduceEqDiff, Int.reduceEq, Int.reduceLT, Int.reduceLE, Int.reduceAdd, Int.reduceSub, Int.reduceNeg, Int.reduceGT, Int.reduceGE, Int.reduceNe, ne_eq, not_false_eq_true, hs]
  unfold restA
  cases decide (signA t = [])
  · simp only [go_sem, Nat.reduceAdd, Nat.reduceLeDiff, Nat.reduceSub, Nat.reduceMul, Nat.reduceEqDiff, Int.reduceEq, Int.reduceLT, Int.reduceLE, Int.reduceAdd, Int.reduceSub, Int.reduceNeg, Int.reduceGT, Int.reduceGE, Int.reduceNe, ne_eq, not_false_eq_true]; rfl
  · simp only [go_sem, Nat.reduceAdd, Nat.reduceLeDiff, Nat.reduceSub, Nat.reduceMul, Nat.reduceEqDiff, Int.reduceEq, Int.reduceLT, Int.reduceLE, Int.reduceAdd, Int.reduceSub, Int.reduceNeg, Int.reduceGT, Int.reduceGE, Int.reduceNe, ne_eq, not_false_eq_true]; rfl
theorem get1 {t : Str} (h : 1 < t.length) : t[1]? = some ((t.drop 1).headD 0) := by
  match t, h with
  | a :: b :: r, _ => rfl
theorem lex_one_spec (t : Str) (td : Bool) (h0 : t ≠ []) (hl : t.length < 2^60) (s : St) :
    cw (.f F_lex_one) [.str t, .bool td] s = some (.ret (.val (.tup [(oneA t td).2.enc, .int .i64 (oneA t td).1])), s) := by
  rw [lex_one_eq]
  have hr := lex_one_rest t td hl s [.val (.int .i64 0), .val (.int .i64 0), .val (.str []), .val (.int .i64 0)] rfl
  have hn : digC (t.headD 0) = true → t.takeWhile digC ≠ [] ∧ (t.takeWhile digC).all digC = true := fun h => by
    cases t with
    | nil => exact absurd rfl h0
    | cons c r =>
      have h : digC c = true := h
      refine ⟨by simp [List.takeWhile_cons, h], ?_⟩
      exact List.all_takeWhile
  have hld : (t.takeWhile digC).length ≤ t.length := takeWhile_length_le _ _
  have hla : (t.takeWhile amoC).length ≤ t.length := takeWhile_length_le _ _
  unfold oneA
  simp only [go_sem, Nat.reduceAdd, Nat.reduceLeDiff, Nat.reduceSub, Nat.reduceMul, Nat.reduceEqDiff, Int.reduceEq, Int.reduceLT, Int.reduceLE, Int.reduceAdd, Int.reduceSub, Int.reduceNeg, Int.reduceGT, Int.reduceGE, Int.reduceNe, ne_eq, not_false_eq_true, indexS_zero T_string_k h0, lex_digit_spec, lex_first_spec, upto_dig t hl, upto_amo t hl]
  rw [show digB ((t.headD 0).toNat : Int) = digC (t.headD 0) from rfl, show firB ((t.headD 0).toNat : Int) = firC (t.headD 0) from rfl]
  cases hd : digC (t.headD 0)
  · simp only [go_sem, Nat.reduceAdd, Nat.reduceLeDiff, Nat.reduceSub, Nat.reduceMul, Nat.reduceEqDiff, Int.reduceEq, Int.reduceLT, Int.reduceLE, Int.reduceAdd, Int.reduceSub, Int.reduceNeg, Int.reduceGT, Int.reduceGE, Int.reduceNe, ne_eq, not_false_eq_true]
    cases hf : firC (t.headD 0)
    · simp only [go_sem, Nat.reduceAdd, Nat.reduceLeDiff, Nat.reduceSub, Nat.reduceMul, Nat.reduceEqDiff, Int.reduceEq, Int.reduceLT, Int.reduceLE, Int.reduceAdd, Int.reduceSub, Int.reduceNeg, Int.reduceGT, Int.reduceGE, Int.reduceNe, ne_eq, not_false_eq_true]
      rw [show decide (((t.headD 0).toNat : Int) = 39) = decide (t.headD 0 = 39) from toNat_eq _ 39 (by decide)]
      cases h3 : decide (t.headD 0 = 39)
      · simp only [go_sem, Nat.reduceAdd, Nat.reduceLeDiff, Nat.reduceSub, Nat.reduceMul, Nat.reduceEqDiff, Int.reduceEq, Int.reduceLT, Int.reduceLE, Int.reduceAdd, Int.reduceSub, Int.reduceNeg, Int.reduceGT, Int.reduceGE, Int.reduceNe, ne_eq, not_false_eq_true, hr]
      · simp only [go_sem, Nat.reduceAdd, Nat.reduceLeDiff, Nat.reduceSub, Nat.reduceMul, Nat.reduceEqDiff, Int.reduceEq, Int.reduceLT, Int.reduceLE, Int.reduceAdd, Int.reduceSub, Int.reduceNeg, Int.reduceGT, Int.reduceGE, Int.reduceNe, ne_eq, not_false_eq_true]
        have e1 : decide ((t.length : Int) > 1) = decide (1 < t.length) := by rw [decide_eq_decide]; omega
        rw [e1]
        cases h4 : decide (1 < t.length)
        · simp only [go_sem, Nat.reduceAdd, Nat.reduceLeDiff, Nat.reduceSub, Nat.reduceMul, Nat.reduceEqDiff, Int.reduceEq, Int.reduceLT, Int.reduceLE, Int.reduceAdd, Int.reduceSub, Int.reduceNeg, Int.reduceGT, Int.reduceGE, Int.reduceNe, ne_eq, not_false_eq_true, hr]
        · have h5 := get1 (of_decide_eq_true h4)
          have h6 := indexS_str (t := C.ti T_string) (et := C.ti T_0) (n := 1) T_string_k h5
          simp only [Int.cast_ofNat_Int] at h6
          have h8 : (t.take 1 ++ (t.drop 1).takeWhile amoC).length ≤ t.length := by
            have := takeWhile_length_le amoC (t.drop 1)
            simp only [List.length_append, List.length_take, List.length_drop] at *
            have := of_decide_eq_true h4
            omega
          have hu := upto_amo1 t hl s h0
          generalize t.take 1 ++ (t.drop 1).takeWhile amoC = u at h8 hu ⊢
          simp only [go_sem, Nat.reduceAdd, Nat.reduceLeDiff, Nat.reduceSub, Nat.reduceMul, Nat.reduceEqDiff, Int.reduceEq, Int.reduceLT, Int.reduceLE, Int.reduceAdd, Int.reduceSub, Int.reduceNeg, Int.reduceGT, Int.reduceGE, Int.reduceNe, ne_eq, not_false_eq_true, h6, lex_first_spec, hu]
          rw [show firB (((t.drop 1).headD 0).toNat : Int) = firC ((t.drop 1).headD 0) from rfl]
          cases h7 : firC ((t.drop 1).headD 0)
          · simp only [go_sem, Nat.reduceAdd, Nat.reduceLeDiff, Nat.reduceSub, Nat.reduceMul, Nat.reduceEqDiff, Int.reduceEq, Int.reduceLT, Int.reduceLE, Int.reduceAdd, Int.reduceSub, Int.reduceNeg, Int.reduceGT, Int.reduceGE, Int.reduceNe, ne_eq, not_false_eq_true, hr]
          · simp only [go_sem, Nat.reduceAdd, Nat.reduceLeDiff, Nat.reduceSub, Nat.reduceMul, Nat.reduceEqDiff, Int.reduceEq, Int.reduceLT, Int.reduceLE, Int.reduceAdd, Int.reduceSub, Int.reduceNeg, Int.reduceGT, Int.reduceGE, Int.reduceNe, ne_eq, not_false_eq_true]
            rw [wrap64 (by omega) (by omega)]
            unfold tyvA
            cases decide ((u.length : Int) - 1 > 32)
            · simp only [go_sem, Nat.reduceAdd, Nat.reduceLeDiff, Nat.reduceSub, Nat.reduceMul, Nat.reduceEqDiff, Int.reduceEq, Int.reduceLT, Int.reduceLE, Int.reduceAdd, Int.reduceSub, Int.reduceNeg, Int.reduceGT, Int.reduceGE, Int.reduceNe, ne_eq, not_false_eq_true]; rfl
            · simp only [go_sem, Nat.reduceAdd, Nat.reduceLeDiff, Nat.reduceSub, Nat.reduceMul, Nat.reduceEqDiff, Int.reduceEq, Int.reduceLT, Int.reduceLE, Int.reduceAdd, Int.reduceSub, Int.reduceNeg, Int.reduceGT, Int.reduceGE, Int.reduceNe, ne_eq, not_false_eq_true]; rfl
    · simp only [go_sem, Nat.reduceAdd, Nat.reduceLeDiff, Nat.reduceSub, Nat.reduceMul, Nat.reduceEqDiff, Int.reduceEq, Int.reduceLT, Int.reduceLE, Int.reduceAdd, Int.reduceSub, Int.reduceNeg, Int.reduceGT, Int.reduceGE, Int.reduceNe, ne_eq, not_false_eq_true]
      have h9 : t.takeWhile amoC ≠ [] := by
        cases t with
        | nil => exact absurd rfl h0
        | cons c r =>
          have hf : firC c = true := hf
          have : amoC c = true := by unfold amoC amoB; unfold firC at hf; rw [hf]; rfl
          simp [List.takeWhile_cons, this]
      cases h3 : decide (t.takeWhile amoC = [95])
      · simp only [go_sem, Nat.reduceAdd, Nat.reduceLeDiff, Nat.reduceSub, Nat.reduceMul, Nat.reduceEqDiff, Int.reduceEq, Int.reduceLT, Int.reduceLE, Int.reduceAdd, Int.reduceSub, Int.reduceNeg, Int.reduceGT, Int.reduceGE, Int.reduceNe, ne_eq, not_false_eq_true]
        cases h4 : decide (((t.takeWhile amoC).length : Int) > 32)
        · simp only [go_sem, Nat.reduceAdd, Nat.reduceLeDiff, Nat.reduceSub, Nat.reduceMul, Nat.reduceEqDiff, Int.reduceEq, Int.reduceLT, Int.reduceLE, Int.reduceAdd, Int.reduceSub, Int.reduceNeg, Int.reduceGT, Int.reduceGE, Int.reduceNe, ne_eq, not_false_eq_true, lex_named_spec _ h9]; rfl
        · simp only [go_sem, Nat.reduceAdd, Nat.reduceLeDiff, Nat.reduceSub, Nat.reduceMul, Nat.reduceEqDiff, Int.reduceEq, Int.reduceLT, Int.reduceLE, Int.reduceAdd, Int.reduceSub, Int.reduceNeg, Int.reduceGT, Int.reduceGE, Int.reduceNe, ne_eq, not_false_eq_true]; rfl
      · simp only [go_sem, Nat.reduceAdd, Nat.reduceLeDiff, Nat.reduceSub, Nat.reduceMul, Nat.reduceEqDiff, Int.reduceEq, Int.reduceLT, Int.reduceLE, Int.reduceAdd, Int.reduceSub, Int.reduceNeg, Int.reduceGT, Int.reduceGE, Int.reduceNe, ne_eq, not_false_eq_true, hr]
  · obtain ⟨h1, h2⟩ := hn hd
    simp only [go_sem, Nat.reduceAdd, Nat.reduceLeDiff, Nat.reduceSub, Nat.reduceMul, Nat.reduceEqDiff, Int.reduceEq, Int.reduceLT, Int.reduceLE, Int.reduceAdd, Int.reduceSub, Int.reduceNeg, Int.reduceGT, Int.reduceGE, Int.reduceNe, ne_eq, not_false_eq_true, lex_number_spec _ td h1 h2 (by omega)]
    cases (numA (t.takeWhile digC) td).2
    · simp only [go_sem, Nat.reduceAdd, Nat.reduceLeDiff, Nat.reduceSub, Nat.reduceMul, Nat.reduceEqDiff, Int.reduceEq, Int.reduceLT, Int.reduceLE, Int.reduceAdd, Int.reduceSub, Int.reduceNeg, Int.reduceGT, Int.reduceGE, Int.reduceNe, ne_eq, not_false_eq_true]; rfl
    · simp only [go_sem, Nat.reduceAdd, Nat.reduceLeDiff, Nat.reduceSub, Nat.reduceMul, Nat.reduceEqDiff, Int.reduceEq, Int.reduceLT, Int.reduceLE, Int.reduceAdd, Int.reduceSub, Int.reduceNeg, Int.reduceGT, Int.reduceGE, Int.reduceNe, ne_eq, not_false_eq_true]; rfl
end Go.Proofs.YtadhckhgemongaaDoor

namespace Go.Proofs.YtadhckhgemongaaDoor
open Go Go.Am
set_option linter.unusedVariables false
set_option maxRecDepth 4000
theorem LTok.cells_mk (k p : Int) (t : Str) (n : Int) : (LTok.mk k p t n).cells = [.int .i64 k, .int .i64 p, .str t, .int .i64 n] := rfl
theorem tokAcc {s0 s : St} {x : Slot} {A : List LTok} {b : LTok} (a : AccR T_Tok s0 s x (A.map LTok.enc)) (b1 : A.length < 2^29) :
    ∃ x' s', appendS T_Tok (C.ti T_Tok) s x (.full [b.enc]) = some (x', s') ∧ AccR T_Tok s0 s' x' ((A ++ [b]).map LTok.enc) :=
  AccR.appendF (B := [b]) a rfl (fun a => by rw [T_Tok_size]; exact LTok.cells_len a) (by rw [T_Tok_size]; decide) (by simp; omega) (by rw [T_Tok_bytes]; decide)
theorem scan_end (acc : List LTok) (x : Slot) (s0 s : St) (a : AccR T_Tok s0 s x (acc.map LTok.enc)) (k p : Int) :
    ∃ nl s', lex_Scan_j0 [.val (.int .i64 0), .val (.int .i64 0), .val (.str [])] x [.val (.int .i64 k), .val (.int .i64 p), .val (.str [])] s = some (.ret (.val (.tup [encS nl ((bif decide (k = 0) then acc else []).map LTok.enc), badEnc k p])), s') ∧ Grew s0 s' := by
  rw [lex_Scan_j0_eq]
  obtain ⟨nl, hx⟩ := a.av
  simp only [go_sem, Nat.reduceAdd, Nat.reduceLeDiff, Nat.reduceSub, Nat.reduceMul, Nat.reduceEqDiff, Int.reduceEq, Int.reduceLT, Int.reduceLE, Int.reduceAdd, Int.reduceSub, Int.reduceNeg, Int.reduceGT, Int.reduceGE, Int.reduceNe, ne_eq, not_false_eq_true]
  cases decide (k = 0)
  · simp only [go_sem, Nat.reduceAdd, Nat.reduceLeDiff, Nat.reduceSub, Nat.reduceMul, Nat.reduceEqDiff, Int.reduceEq, Int.reduceLT, Int.reduceLE, Int.reduceAdd, Int.reduceSub, Int.reduceNeg, Int.reduceGT, Int.reduceGE, Int.reduceNe, ne_eq, not_false_eq_true]
    exact ⟨true, s, rfl, a.grew⟩
  · simp only [go_sem, Nat.reduceAdd, Nat.reduceLeDiff, Nat.reduceSub, Nat.reduceMul, Nat.reduceEqDiff, Int.reduceEq, Int.reduceLT, Int.reduceLE, Int.reduceAdd, Int.reduceSub, Int.reduceNeg, Int.reduceGT, Int.reduceGE, Int.reduceNe, ne_eq, not_false_eq_true, avsO_cons hx]
    exact ⟨nl, s, rfl, a.grew⟩
theorem last_facts {acc : List LTok} {x : Slot} (h : x.list? = some (acc.map LTok.enc)) (h0 : 0 < acc.length) : ixS 4 x (.val (.int .i64 ((acc.length : Int) - 1))) = some (.val (.cp (acc.getLastD .zero).cells)) := by
  have hne : acc ≠ [] := List.length_pos_iff.1 h0
  have e : (acc.length : Int) - 1 = ((acc.length - 1 : Nat) : Int) := by omega
  rw [e]
  have hg : acc[acc.length - 1]? = some (acc.getLastD .zero) := by
    rw [← List.getLast?_eq_getElem?, List.getLast?_eq_some_getLast hne, List.getLastD_eq_getLast?, List.getLast?_eq_some_getLast hne]
    rfl
  exact ixS_get (v := LTok.enc (acc.getLastD .zero)) h (by rw [List.getElem?_map, hg]; rfl) (LTok.cells_len _) (by decide)
theorem scan_loop (L : Str) (hl : L.length ≤ 65536) (s0 : St) : ∀ (fuel : Nat) (suf pre : Str) (acc : List LTok) (x : Slot) (s : St) (i : Nat), suf.length < fuel → pre ++ suf = L → i = pre.length → AccR T_Tok s0 s x (acc.map LTok.enc) → acc.length ≤ pre.length →
    ∃ nl s', lex_Scan_l0 (.val (.str L)) [.val (.int .i64 0), .val (.int .i64 0), .val (.str [])] x [.val (.int .i64 0), .val (.int .i64 0), .val (.str [])] (.val (.int .i64 (i : Int))) s =
      some (.ret (.val (.tup [encS nl ((scanF fuel i suf acc).1.map LTok.enc), badEnc (scanF fuel i suf acc).2.1 (scanF fuel i suf acc).2.2])), s') ∧ Grew s0 s' := by
  intro fuel
  induction fuel with
  | zero => intro suf pre acc x s i h; omega
  | succ n ih =>
    intro suf pre acc x s i hf h hi a hacc
    subst hi
    have hL : pre.length + suf.length = L.length := by rw [← h]; simp
    rw [lex_Scan_l0_eq]
    match suf, hf, h, hL with
    | [], _, h, hL =>
      have hb : decide ((pre.length : Int) < (L.length : Int)) = false := by simp; simp at hL; omega
      simp only [go_sem, Nat.reduceAdd, Nat.reduceLeDiff, Nat.reduceSub, Nat.reduceMul, Nat.reduceEqDiff, Int.reduceEq, Int.reduceLT, Int.reduceLE, Int.reduceAdd, Int.reduceSub, Int.reduceNeg, Int.reduceGT, Int.reduceGE, Int.reduceNe, ne_eq, not_false_eq_true, hb]
      exact scan_end acc x s0 s a 0 0
    | c :: r, hf, h, hL =>
      simp only [List.length_cons] at hL hf
      have hc : L[pre.length]? = some c := by rw [← h]; simp
      have hb : decide ((pre.length : Int) < (L.length : Int)) = true := by simp; omega
      have hfrom := sliceS_from (t := C.ti T_string) T_string_k (l := L) (i := pre.length) (by omega)
      have hdrop : L.drop pre.length = c :: r := by rw [← h]; simp
      rw [hdrop] at hfrom
      have hpre := hasPrefix_spec (c :: r) [40, 42] s
      have hop : (decide (([40, 42] : Str).length ≤ (c :: r).length) && decide ((c :: r).take ([40, 42] : Str).length = [40, 42])) = lxOpens (c :: r) := by
        cases r with
        | nil => rfl
        | cons b r => simp [lxOpens, Bool.decide_and]
      rw [hop] at hpre
      have hrem := lex_remark_spec pre (c :: r) (by rw [h]; omega) s
      rw [h] at hrem
      simp only [go_sem, Nat.reduceAdd, Nat.reduceLeDiff, Nat.reduceSub, Nat.reduceMul, Nat.reduceEqDiff, Int.reduceEq, Int.reduceLT, Int.reduceLE, Int.reduceAdd, Int.reduceSub, Int.reduceNeg, Int.reduceGT, Int.reduceGE, Int.reduceNe, ne_eq, not_false_eq_true, hb, indexS_str T_string_k hc, indexByte_spec, blank_eq, hfrom, hpre, hrem, a.list?]
      unfold scanF
      cases hbl : blankC c
      · simp only [go_sem, Nat.reduceAdd, Nat.reduceLeDiff, Nat.reduceSub, Nat.reduceMul, Nat.reduceEqDiff, Int.reduceEq, Int.reduceLT, Int.reduceLE, Int.reduceAdd, Int.reduceSub, Int.reduceNeg, Int.reduceGT, Int.reduceGE, Int.reduceNe, ne_eq, not_false_eq_true]
        cases hop2 : lxOpens (c :: r)
        · simp only [go_sem, Nat.reduceAdd, Nat.reduceLeDiff, Nat.reduceSub, Nat.reduceMul, Nat.reduceEqDiff, Int.reduceEq, Int.reduceLT, Int.reduceLE, Int.reduceAdd, Int.reduceSub, Int.reduceNeg, Int.reduceGT, Int.reduceGE, Int.reduceNe, ne_eq, not_false_eq_true]
          cases hge : decide (acc.length ≥ 16384)
          · have hge' : decide ((acc.length : Int) ≥ 16384) = false := by simp at hge ⊢; omega
            have hone := lex_one_spec (c :: r) (tildeL acc) (by simp) (by simp; omega) s
            have hp := oneA_pre (c :: r) (tildeL acc) (by simp)
            simp only [go_sem, Nat.reduceAdd, Nat.reduceLeDiff, Nat.reduceSub, Nat.reduceMul, Nat.reduceEqDiff, Int.reduceEq, Int.reduceLT, Int.reduceLE, Int.reduceAdd, Int.reduceSub, Int.reduceNeg, Int.reduceGT, Int.reduceGE, Int.reduceNe, ne_eq, not_false_eq_true, hge']
            rcases Nat.eq_zero_or_pos acc.length with h0 | h0
            case' inl =>
              have hz : decide ((acc.length : Int) > 0) = false := by simp [h0]
              have ht : tildeL acc = false := by unfold tildeL; rw [decide_eq_false (by omega)]; rfl
              rw [ht] at hone hp ⊢
              simp only [go_sem, Nat.reduceAdd, Nat.reduceLeDiff, Nat.reduceSub, Nat.reduceMul, Nat.reduceEqDiff, Int.reduceEq, Int.reduceLT, Int.reduceLE, Int.reduceAdd, Int.reduceSub, Int.reduceNeg, Int.reduceGT, Int.reduceGE, Int.reduceNe, ne_eq, not_false_eq_true, hz, hone]
              generalize oneA (c :: r) false = z at hp
            case' inr =>
              have hz : decide ((acc.length : Int) > 0) = true := by simp; omega
              have ht : tildeL acc = decide ((acc.getLastD .zero).text = [126]) := by unfold tildeL; rw [decide_eq_true h0]; rfl
              rw [ht] at hone hp ⊢
              simp only [go_sem, Nat.reduceAdd, Nat.reduceLeDiff, Nat.reduceSub, Nat.reduceMul, Nat.reduceEqDiff, Int.reduceEq, Int.reduceLT, Int.reduceLE, Int.reduceAdd, Int.reduceSub, Int.reduceNeg, Int.reduceGT, Int.reduceGE, Int.reduceNe, ne_eq, not_false_eq_true, hz]
              rw [wrap64 (by omega) (by omega), last_facts a.list? h0]
              simp only [go_sem, Nat.reduceAdd, Nat.reduceLeDiff, Nat.reduceSub, Nat.reduceMul, Nat.reduceEqDiff, Int.reduceEq, Int.reduceLT, Int.reduceLE, Int.reduceAdd, Int.reduceSub, Int.reduceNeg, Int.reduceGT, Int.reduceGE, Int.reduceNe, ne_eq, not_false_eq_true, hone, LTok.cells]
              generalize oneA (c :: r) (decide ((acc.getLastD .zero).text = [126])) = z at hp
            all_goals
              obtain ⟨e, k, p, t, m⟩ := z
              simp only [go_sem, Nat.reduceAdd, Nat.reduceLeDiff, Nat.reduceSub, Nat.reduceMul, Nat.reduceEqDiff, Int.reduceEq, Int.reduceLT, Int.reduceLE, Int.reduceAdd, Int.reduceSub, Int.reduceNeg, Int.reduceGT, Int.reduceGE, Int.reduceNe, ne_eq, not_false_eq_true, LTok.cells_mk]
              cases he : decide (e = 0)
              · simp only [go_sem, Nat.reduceAdd, Nat.reduceLeDiff, Nat.reduceSub, Nat.reduceMul, Nat.reduceEqDiff, Int.reduceEq, Int.reduceLT, Int.reduceLE, Int.reduceAdd, Int.reduceSub, Int.reduceNeg, Int.reduceGT, Int.reduceGE, Int.reduceNe, ne_eq, not_false_eq_true, LTok.enc, LTok.cells_mk]
                have := scan_end acc x s0 s a e pre.length
                rw [he] at this
                exact this
              · obtain ⟨hp1, hp2, hp3⟩ := hp (of_decide_eq_true he)
                simp only at hp1 hp2 hp3
                obtain ⟨x', s', ha, a'⟩ := tokAcc (b := ⟨k, pre.length, t, m⟩) a (by omega)
                have ht1 := hp1.length_le
                have ht0 : 0 < t.length := List.length_pos_iff.2 hp2
                simp only [List.length_cons] at ht1
                simp only [LTok.enc, LTok.cells_mk] at ha
                simp only [go_sem, Nat.reduceAdd, Nat.reduceLeDiff, Nat.reduceSub, Nat.reduceMul, Nat.reduceEqDiff, Int.reduceEq, Int.reduceLT, Int.reduceLE, Int.reduceAdd, Int.reduceSub, Int.reduceNeg, Int.reduceGT, Int.reduceGE, Int.reduceNe, ne_eq, not_false_eq_true, LTok.enc, LTok.cells_mk, ha]
                rw [wrap64 (by omega) (by omega)]
                exact ih ((c :: r).drop t.length) (pre ++ (c :: r).take t.length) _ x' s' (pre.length + t.length) (by simp; omega) (by rw [List.append_assoc, List.take_append_drop, h]) (by simp; omega) a' (by simp; omega)
          · have hge' : decide ((acc.length : Int) ≥ 16384) = true := by simp at hge ⊢; omega
            simp only [go_sem, Nat.reduceAdd, Nat.reduceLeDiff, Nat.reduceSub, Nat.reduceMul, Nat.reduceEqDiff, Int.reduceEq, Int.reduceLT, Int.reduceLE, Int.reduceAdd, Int.reduceSub, Int.reduceNeg, Int.reduceGT, Int.reduceGE, Int.reduceNe, ne_eq, not_false_eq_true, hge']
            exact scan_end acc x s0 s a 4 pre.length
        · simp only [go_sem, Nat.reduceAdd, Nat.reduceLeDiff, Nat.reduceSub, Nat.reduceMul, Nat.reduceEqDiff, Int.reduceEq, Int.reduceLT, Int.reduceLE, Int.reduceAdd, Int.reduceSub, Int.reduceNeg, Int.reduceGT, Int.reduceGE, Int.reduceNe, ne_eq, not_false_eq_true]
          cases hcom : lxCom 0 (c :: r) with
          | none =>
            simp only [go_sem, Nat.reduceAdd, Nat.reduceLeDiff, Nat.reduceSub, Nat.reduceMul, Nat.reduceEqDiff, Int.reduceEq, Int.reduceLT, Int.reduceLE, Int.reduceAdd, Int.reduceSub, Int.reduceNeg, Int.reduceGT, Int.reduceGE, Int.reduceNe, ne_eq, not_false_eq_true]
            exact scan_end acc x s0 s a 12 pre.length
          | some k =>
            have hk := com_le _ _ _ hcom
            simp only [List.length_cons] at hk
            have hneg : decide (((pre.length + k : Nat) : Int) < 0) = false := by simp; omega
            simp only [go_sem, Nat.reduceAdd, Nat.reduceLeDiff, Nat.reduceSub, Nat.reduceMul, Nat.reduceEqDiff, Int.reduceEq, Int.reduceLT, Int.reduceLE, Int.reduceAdd, Int.reduceSub, Int.reduceNeg, Int.reduceGT, Int.reduceGE, Int.reduceNe, ne_eq, not_false_eq_true, hneg]
            exact ih ((c :: r).drop k) (pre ++ (c :: r).take k) acc x s (pre.length + k) (by simp; omega) (by rw [List.append_assoc, List.take_append_drop, h]) (by simp; omega) a (by simp; omega)
      · simp only [go_sem, Nat.reduceAdd, Nat.reduceLeDiff, Nat.reduceSub, Nat.reduceMul, Nat.reduceEqDiff, Int.reduceEq, Int.reduceLT, Int.reduceLE, Int.reduceAdd, Int.reduceSub, Int.reduceNeg, Int.reduceGT, Int.reduceGE, Int.reduceNe, ne_eq, not_false_eq_true]
        rw [wrap64 (by omega) (by omega)]
        exact ih r (pre ++ [c]) acc x s (pre.length + 1) (by omega) (by simp [h]) (by simp) a (by simp; omega)
theorem lex_Scan_spec (L : Str) (hl : L.length < 2^60) (s : St) : ∃ nl s', cw (.f F_lex_Scan) [.str L] s = some (.ret (.val (.tup [encS nl ((lxScan L).1.map LTok.enc), badEnc (lxScan L).2.1 (lxScan L).2.2])), s') ∧ Grew s s' := by
  rw [lex_Scan_eq]
  unfold lxScan
  simp only [go_sem, Nat.reduceAdd, Nat.reduceLeDiff, Nat.reduceSub, Nat.reduceMul, Nat.reduceEqDiff, Int.reduceEq, Int.reduceLT, Int.reduceLE, Int.reduceAdd, Int.reduceSub, Int.reduceNeg, Int.reduceGT, Int.reduceGE, Int.reduceNe, ne_eq, not_false_eq_true]
  cases hb : decide ((L.length : Int) > 65536)
  · simp only [go_sem, Nat.reduceAdd, Nat.reduceLeDiff, Nat.reduceSub, Nat.reduceMul, Nat.reduceEqDiff, Int.reduceEq, Int.reduceLT, Int.reduceLE, Int.reduceAdd, Int.reduceSub, Int.reduceNeg, Int.reduceGT, Int.reduceGE, Int.reduceNe, ne_eq, not_false_eq_true]
    exact scan_loop L (by simp at hb; omega) s (L.length + 1) L [] [] (.val .nils) s 0 (by omega) rfl rfl (AccR.nil _ _) (by simp)
  · simp only [go_sem, Nat.reduceAdd, Nat.reduceLeDiff, Nat.reduceSub, Nat.reduceMul, Nat.reduceEqDiff, Int.reduceEq, Int.reduceLT, Int.reduceLE, Int.reduceAdd, Int.reduceSub, Int.reduceNeg, Int.reduceGT, Int.reduceGE, Int.reduceNe, ne_eq, not_false_eq_true]
    exact ⟨true, s, rfl, .refl s⟩
end Go.Proofs.YtadhckhgemongaaDoor

namespace Go.Am
open Go
theorem scanF_few : ∀ (n i : Nat) (s : Str) (acc : List LTok), acc.length ≤ 16384 → (scanF n i s acc).1.length ≤ 16384
  | 0, _, _, _, h => h
  | _ + 1, _, [], _, h => h
  | n + 1, i, c :: r, acc, h => by
    unfold scanF
    cases blankC c
    · simp only [cond_false]
      cases lxOpens (c :: r)
      · simp only [cond_false]
        cases hg : decide (acc.length ≥ 16384)
        · simp only [cond_false]
          cases decide ((oneA (c :: r) (tildeL acc)).1 = 0)
          · exact Nat.zero_le _
          · simp only [cond_true]
            exact scanF_few n _ _ _ (by simp at hg; simp; omega)
        · exact Nat.zero_le _
      · simp only [cond_true]
        cases lxCom 0 (c :: r) with
        | none => exact Nat.zero_le _
        | some k => exact scanF_few n _ _ _ h
    · exact scanF_few n _ _ _ h
theorem scan_few (s : Str) : (lxScan s).1.length ≤ 16384 := by
  unfold lxScan
  cases decide ((s.length : Int) > 65536)
  · exact scanF_few _ _ _ _ (Nat.zero_le _)
  · exact Nat.zero_le _
end Go.Am

namespace Go.Am
open Go
def showL (l : List LTok) : Str := Go.Lib.join (l.map LTok.text) [32]
def totL (l : List LTok) : Nat := (l.map fun t => t.text.length + 1).sum
theorem totL_len (l : List LTok) : l.length ≤ totL l := by
  induction l with
  | nil => simp [totL]
  | cons a l ih => simp only [totL, List.map_cons, List.sum_cons, List.length_cons] at ih ⊢; omega
theorem showL_le (l : List LTok) : (showL l).length ≤ totL l := by
  cases l with
  | nil => simp [showL, Go.Lib.join_nil]
  | cons a l =>
    unfold showL
    rw [List.map_cons, Go.Lib.join_cons, List.length_append]
    have : ∀ l : List LTok, (Go.Lib.joinTail [32] (l.map LTok.text)).length = totL l := by
      intro l
      induction l with
      | nil => simp [Go.Lib.joinTail, totL]
      | cons b l ih =>
        simp only [Go.Lib.joinTail, totL, List.map_cons, List.flatten_cons, List.length_append, List.sum_cons, List.length_cons, List.length_nil] at ih ⊢
        omega
    rw [this]
    simp only [totL, List.map_cons, List.sum_cons]
    omega
end Go.Am

namespace Go.Am
open Go
/-- nothing, or a blank -/
def SpV (v : Str) : Prop := v = [] ∨ ∃ w, v = 32 :: w
theorem takeWhile_sp {p : UInt8 → Bool} (h32 : p 32 = false) : ∀ (t : Str) {v : Str}, SpV v → t.all p = true → (t ++ v).takeWhile p = t
  | [], v, hv, _ => by
    rcases hv with rfl | ⟨w, rfl⟩
    · rfl
    · simp [h32]
  | a :: t, v, hv, h => by
    simp only [List.all_cons, Bool.and_eq_true] at h
    rw [List.cons_append, List.takeWhile_cons, h.1]
    simp only [if_true]
    rw [takeWhile_sp h32 t hv h.2]
theorem signA_mem (u : Str) (h : signA u ≠ []) : (∃ a b, signA u = [a, b] ∧ hasL lsigns [a, b] = true) ∨ ∃ a, signA u = [a] ∧ hasL lsigns [a] = true := by
  match u with
  | [] => exact absurd rfl h
  | [a] =>
    cases h1 : hasL lsigns [a]
    · simp [signA, h1] at h
    · exact .inr ⟨a, by simp [signA, h1], h1⟩
  | a :: b :: r =>
    cases h2 : hasL lsigns [a, b]
    · cases h1 : hasL lsigns [a]
      · simp [signA, h1, h2] at h
      · exact .inr ⟨a, by simp [signA, h1, h2], h1⟩
    · exact .inl ⟨a, b, by simp [signA, h2], h2⟩
theorem no_sp (a : UInt8) : hasL lsigns [a, 32] = false := by simp [hasL, lsigns]
theorem signA_sp (u v : Str) (hv : SpV v) (h : signA u ≠ []) : signA (signA u ++ v) = signA u := by
  rcases signA_mem u h with ⟨a, b, e, hm⟩ | ⟨a, e, hm⟩
  · rw [e]
    simp [signA, hm]
  · rw [e]
    rcases hv with rfl | ⟨w, rfl⟩
    · simp [signA, hm]
    · simp [signA, hm, no_sp]
theorem signA_head (u : Str) (h : signA u ≠ []) : (signA u).headD 0 = u.headD 0 := by
  obtain ⟨q, hq⟩ := signA_pre u
  cases hs : signA u with
  | nil => exact absurd hs h
  | cons a t => rw [← hq, hs]; rfl
theorem sign_no39 (u : Str) (h : signA u ≠ []) : u.headD 0 ≠ 39 := by
  rw [← signA_head u h]
  intro e
  rcases signA_mem u h with ⟨a, b, e2, hm⟩ | ⟨a, e2, hm⟩
  · rw [e2] at e
    have e : a = 39 := e
    subst e
    simp [hasL, lsigns] at hm
  · rw [e2] at e
    have e : a = 39 := e
    subst e
    simp [hasL, lsigns] at hm
theorem restA_ok (u : Str) (h : (restA u).1 = 0) : signA u ≠ [] ∧ restA u = (0, ⟨6, 0, signA u, 0⟩) := by
  have h0 : signA u ≠ [] := by
    intro e
    unfold restA at h
    rw [e] at h
    simp at h
  exact ⟨h0, by unfold restA; rw [decide_eq_false h0]; rfl⟩
theorem headD_app (t v : Str) (h : t ≠ []) : (t ++ v).headD 0 = t.headD 0 := by
  cases t with
  | nil => exact absurd rfl h
  | cons a t => rfl
theorem oneA_sp (u v : Str) (td : Bool) (hu : u ≠ []) (hv : SpV v) (h : (oneA u td).1 = 0) : oneA ((oneA u td).2.text ++ v) td = oneA u td := by
  obtain ⟨c, r, rfl⟩ := List.exists_cons_of_ne_nil hu
  have hch : (c :: r).headD 0 = c := rfl
  unfold oneA at h
  rw [hch] at h
  cases h1 : digC c
  · rw [h1, cond_false] at h
    cases h2 : firC c
    · rw [h2, cond_false] at h
      cases h3 : decide (c = 39) && decide (1 < (c :: r).length) && firC (((c :: r).drop 1).headD 0)
      · rw [h3, cond_false] at h
        have e : oneA (c :: r) td = restA (c :: r) := by unfold oneA; rw [hch, h1, h2, h3]; rfl
        rw [e]
        obtain ⟨k1, k2⟩ := restA_ok _ h
        have hh := signA_head _ k1
        have h39 := sign_no39 _ k1
        have hsp := signA_sp _ v hv k1
        rw [k2]
        simp only []
        have hd : (signA (c :: r) ++ v).headD 0 = c := by rw [headD_app _ _ k1, hh, hch]
        have hr : restA (signA (c :: r) ++ v) = (0, ⟨6, 0, signA (c :: r), 0⟩) := by unfold restA; rw [hsp, decide_eq_false k1]; rfl
        unfold oneA
        have d39 : decide (c = 39) = false := decide_eq_false (by rw [hch] at h39; exact h39)
        rw [hd, h1, h2, d39]
        simp only [Bool.false_and, cond_false]
        exact hr
      · rw [h3, cond_true] at h
        simp only [Bool.and_eq_true, decide_eq_true_eq] at h3
        obtain ⟨⟨h3a, h3b⟩, h3c⟩ := h3
        have e : oneA (c :: r) td = tyvA ((c :: r).take 1 ++ ((c :: r).drop 1).takeWhile amoC) := by
          unfold oneA
          rw [hch, h1, h2]
          simp only [cond_false]
          rw [show (decide (c = 39) && decide (1 < (c :: r).length) && firC (((c :: r).drop 1).headD 0)) = true by simp only [Bool.and_eq_true, decide_eq_true_eq]; exact ⟨⟨h3a, h3b⟩, h3c⟩]
          rfl
        rw [show (c :: r).take 1 = [c] from rfl, show (c :: r).drop 1 = r from rfl] at e h
        rw [show (c :: r).drop 1 = r from rfl] at h3c
        cases r with
        | nil => simp at h3b
        | cons b r =>
          have hb : firC b = true := h3c
          have ham : amoC b = true := by unfold amoC amoB; unfold firC at hb; rw [hb]; rfl
          have htw : (b :: r).takeWhile amoC = b :: r.takeWhile amoC := by rw [List.takeWhile_cons, ham]; rfl
          have htx : (tyvA ([c] ++ (b :: r).takeWhile amoC)).2.text = [c] ++ (b :: r).takeWhile amoC := by
            unfold tyvA at h ⊢
            cases he : decide (((([c] ++ (b :: r).takeWhile amoC).length : Nat) : Int) - 1 > 32)
            · rfl
            · rw [he] at h; simp at h
          rw [e, htx]
          have hall : ((b :: r).takeWhile amoC).all amoC = true := List.all_takeWhile
          have htw2 := takeWhile_sp (p := amoC) (by decide) _ hv hall
          have e5 : (decide (c = 39) && decide (1 < ([c] ++ (b :: r).takeWhile amoC ++ v).length) && firC ((([c] ++ (b :: r).takeWhile amoC ++ v).drop 1).headD 0)) = true := by
            rw [htw]
            simp only [Bool.and_eq_true, decide_eq_true_eq]
            exact ⟨⟨h3a, by simp⟩, hb⟩
          unfold oneA
          rw [show ([c] ++ (b :: r).takeWhile amoC ++ v).headD 0 = c from rfl, h1, h2, e5]
          simp only [cond_false, cond_true]
          rw [show ([c] ++ (b :: r).takeWhile amoC ++ v).take 1 = [c] from rfl, show ([c] ++ (b :: r).takeWhile amoC ++ v).drop 1 = (b :: r).takeWhile amoC ++ v from rfl, htw2]
    · rw [h2, cond_true] at h
      have ham : amoC c = true := by unfold amoC amoB; have h2' := h2; unfold firC at h2'; rw [h2']; rfl
      cases h3 : decide ((c :: r).takeWhile amoC = [95])
      · rw [h3, cond_false] at h
        cases h4 : decide ((((c :: r).takeWhile amoC).length : Int) > 32)
        · have e : oneA (c :: r) td = (0, ⟨namedA ((c :: r).takeWhile amoC), 0, (c :: r).takeWhile amoC, 0⟩) := by
            unfold oneA; rw [hch, h1, h2, h3, h4]; rfl
          rw [e]
          simp only []
          have htw := takeWhile_sp (p := amoC) (by decide) ((c :: r).takeWhile amoC) hv List.all_takeWhile
          have hne : (c :: r).takeWhile amoC ≠ [] := by rw [List.takeWhile_cons, ham]; simp
          have hd : ((c :: r).takeWhile amoC ++ v).headD 0 = c := by rw [List.takeWhile_cons, ham]; rfl
          unfold oneA
          rw [hd, h1, h2, htw, h3, h4]
          rfl
        · rw [h4] at h; simp at h
      · rw [h3, cond_true] at h
        have e : oneA (c :: r) td = restA (c :: r) := by unfold oneA; rw [hch, h1, h2, h3]; rfl
        rw [e]
        obtain ⟨k1, k2⟩ := restA_ok _ h
        have hh := signA_head _ k1
        have hsp := signA_sp _ v hv k1
        have hc95 : c = 95 := by
          have := of_decide_eq_true h3
          rw [List.takeWhile_cons, ham] at this
          simp only [if_true, List.cons.injEq] at this
          exact this.1
        rw [k2]
        simp only []
        have hd : (signA (c :: r) ++ v).headD 0 = c := by rw [headD_app _ _ k1, hh, hch]
        have hr : restA (signA (c :: r) ++ v) = (0, ⟨6, 0, signA (c :: r), 0⟩) := by unfold restA; rw [hsp, decide_eq_false k1]; rfl
        have hs95 : signA (c :: r) = [95] := by
          rcases signA_mem _ k1 with ⟨a, b, e2, hm⟩ | ⟨a, e2, hm⟩
          · exfalso
            rw [e2] at hh
            have hh : a = c := hh
            subst hh
            rw [hc95] at hm
            simp [hasL, lsigns] at hm
          · rw [e2] at hh ⊢
            have hh : a = c := hh
            rw [hh, hc95]
        have htw : (signA (c :: r) ++ v).takeWhile amoC = [95] := by
          rw [hs95]
          exact takeWhile_sp (p := amoC) (by decide) [95] hv (by decide)
        unfold oneA
        rw [hd, h1, h2, htw]
        exact hr
  · rw [h1, cond_true] at h
    cases h3 : (numA ((c :: r).takeWhile digC) td).2
    · rw [h3] at h; simp at h
    · have e : oneA (c :: r) td = (0, ⟨1, 0, (c :: r).takeWhile digC, (numA ((c :: r).takeWhile digC) td).1⟩) := by
        unfold oneA; rw [hch, h1, h3]; rfl
      rw [e]
      simp only []
      have htw := takeWhile_sp (p := digC) (by decide) ((c :: r).takeWhile digC) hv List.all_takeWhile
      have hd : ((c :: r).takeWhile digC ++ v).headD 0 = c := by rw [List.takeWhile_cons, h1]; rfl
      unfold oneA
      rw [hd, h1, htw, h3]
      rfl
end Go.Am

namespace Go.Am
open Go
def bareT (t : LTok) : Int × Str × Int := (t.kind, t.text, t.num)
/-- tokens, each cut at the beginning of some text -/
def LexL : List LTok → List LTok → Prop
  | _, [] => True
  | acc, t :: r => acc.length < 16384 ∧ (∃ u, u ≠ [] ∧ blankC (u.headD 0) = false ∧ lxOpens u = false ∧ (oneA u (tildeL acc)).1 = 0 ∧ bareT (oneA u (tildeL acc)).2 = bareT t) ∧ LexL (acc ++ [t]) r
/-- tokens that stand in a text, one behind the other -/
def ChainL (L : Str) : Nat → List LTok → Prop
  | _, [] => True
  | e, t :: r => ∃ p : Nat, t.pos = (p : Int) ∧ e ≤ p ∧ t.text ≠ [] ∧ p + t.text.length ≤ L.length ∧ (L.drop p).take t.text.length = t.text ∧ ChainL L (p + t.text.length) r
theorem ChainL.weaken {L : Str} {e e' : Nat} (h : e' ≤ e) : ∀ {l : List LTok}, ChainL L e l → ChainL L e' l
  | [], _ => trivial
  | _ :: _, ⟨p, h1, h2, h3⟩ => ⟨p, h1, by omega, h3⟩
theorem ChainL.tot {L : Str} : ∀ {l : List LTok} {e : Nat}, ChainL L e l → e ≤ L.length → totL l + 2 * e ≤ 2 * L.length
  | [], e, _, he => by simp [totL]; omega
  | t :: l, e, ⟨p, h1, h2, h3, h4, h5, h6⟩, _ => by
    have := ChainL.tot h6 h4
    have h7 : 0 < t.text.length := List.length_pos_iff.2 h3
    simp only [totL, List.map_cons, List.sum_cons] at this ⊢
    omega
theorem scanF_tells : ∀ (n : Nat) (s pre : Str) (i : Nat) (acc l : List LTok) (e p : Int), s.length < n → i = pre.length → scanF n i s acc = (l, e, p) →
    (e = 0 ∧ p = 0 ∧ ∃ new, l = acc ++ new ∧ LexL acc new ∧ ChainL (pre ++ s) i new) ∨ (e ≠ 0 ∧ l = [] ∧ ∃ j : Nat, p = (j : Int) ∧ j < i + s.length)
  | 0, _, _, _, _, _, _, _, h, _, _ => by omega
  | _ + 1, [], pre, i, acc, l, e, p, _, _, h => by
    simp only [scanF, Prod.mk.injEq] at h
    exact .inl ⟨h.2.1.symm, h.2.2.symm, [], by simp [h.1], trivial, trivial⟩
  | n + 1, c :: r, pre, i, acc, l, e, p, hn, hi, h => by
    simp only [List.length_cons] at hn
    rw [scanF] at h
    cases hb : blankC c
    · rw [hb, cond_false] at h
      cases ho : lxOpens (c :: r)
      · rw [ho, cond_false] at h
        cases hg : decide (acc.length ≥ 16384)
        · rw [hg, cond_false] at h
          cases he : decide ((oneA (c :: r) (tildeL acc)).1 = 0)
          · rw [he, cond_false] at h
            simp only [Prod.mk.injEq] at h
            obtain ⟨rfl, rfl, rfl⟩ := h
            exact .inr ⟨of_decide_eq_false he, rfl, i, rfl, by simp⟩
          · rw [he, cond_true] at h
            have he' := of_decide_eq_true he
            obtain ⟨hp1, hp2, hp3⟩ := oneA_pre (c :: r) (tildeL acc) (by simp) he'
            have hcond : ∃ u, u ≠ [] ∧ blankC (u.headD 0) = false ∧ lxOpens u = false ∧ (oneA u (tildeL acc)).1 = 0 ∧ bareT (oneA u (tildeL acc)).2 = bareT { (oneA (c :: r) (tildeL acc)).2 with pos := (i : Int) } := ⟨c :: r, by simp, hb, ho, he', rfl⟩
            generalize oneA (c :: r) (tildeL acc) = z at h hp1 hp2 hp3 hcond
            have hl0 : 0 < z.2.text.length := List.length_pos_iff.2 hp2
            have hl1 := hp1.length_le
            simp only [List.length_cons] at hl1
            have ht : (c :: r).take z.2.text.length = z.2.text := by
              obtain ⟨q, hq⟩ := hp1
              rw [← hq, List.take_left]
            rcases scanF_tells n ((c :: r).drop z.2.text.length) (pre ++ (c :: r).take z.2.text.length) (i + z.2.text.length) _ l e p (by simp only [List.length_drop, List.length_cons]; omega) (by simp; omega) h with ⟨k1, k2, new, k3, k4, k5⟩ | ⟨k1, k2, j, k3, k4⟩
            · refine .inl ⟨k1, k2, { z.2 with pos := (i : Int) } :: new, by rw [k3]; simp, ⟨by simp at hg; omega, hcond, k4⟩, i, rfl, Nat.le_refl _, hp2, by simp; omega, ?_, ?_⟩
              · rw [hi, List.drop_left]
                exact ht
              · rw [List.append_assoc, List.take_append_drop] at k5
                exact k5
            · simp only [List.length_drop, List.length_cons] at k4
              exact .inr ⟨k1, k2, j, k3, by simp only [List.length_cons]; omega⟩
        · rw [hg, cond_true] at h
          simp only [Prod.mk.injEq] at h
          obtain ⟨rfl, rfl, rfl⟩ := h
          exact .inr ⟨by decide, rfl, i, rfl, by simp⟩
      · rw [ho, cond_true] at h
        cases hc : lxCom 0 (c :: r) with
        | none =>
          rw [hc] at h
          simp only [Prod.mk.injEq] at h
          obtain ⟨rfl, rfl, rfl⟩ := h
          exact .inr ⟨by decide, rfl, i, rfl, by simp⟩
        | some k =>
          rw [hc] at h
          have hk := com_le _ _ _ hc
          simp only [List.length_cons] at hk
          rcases scanF_tells n ((c :: r).drop k) (pre ++ (c :: r).take k) (i + k) acc l e p (by simp only [List.length_drop, List.length_cons]; omega) (by simp; omega) h with ⟨k1, k2, new, k3, k4, k5⟩ | ⟨k1, k2, j, k3, k4⟩
          · rw [List.append_assoc, List.take_append_drop] at k5
            exact .inl ⟨k1, k2, new, k3, k4, k5.weaken (by omega)⟩
          · simp only [List.length_drop, List.length_cons] at k4
            exact .inr ⟨k1, k2, j, k3, by simp only [List.length_cons]; omega⟩
    · rw [hb, cond_true] at h
      rcases scanF_tells n r (pre ++ [c]) (i + 1) acc l e p (by omega) (by simp; omega) h with ⟨k1, k2, new, k3, k4, k5⟩ | ⟨k1, k2, j, k3, k4⟩
      · rw [List.append_assoc, List.singleton_append] at k5
        exact .inl ⟨k1, k2, new, k3, k4, k5.weaken (by omega)⟩
      · exact .inr ⟨k1, k2, j, k3, by simp only [List.length_cons]; omega⟩
theorem tilde_bare (a b : List LTok) (h : a.map bareT = b.map bareT) : tildeL a = tildeL b := by
  have hl : a.length = b.length := by simpa using congrArg List.length h
  unfold tildeL
  rw [hl]
  rcases List.eq_nil_or_concat a with rfl | ⟨p, x, rfl⟩
  · have : b = [] := List.length_eq_zero_iff.1 hl.symm
    rw [this]
  · rcases List.eq_nil_or_concat b with rfl | ⟨q, y, rfl⟩
    · simp at hl
    · simp only [List.concat_eq_append, List.map_append, List.map_cons, List.map_nil] at h
      have h2 := (List.append_inj_right' h rfl)
      simp only [List.cons.injEq, and_true] at h2
      have h3 : x.text = y.text := congrArg (fun z => z.2.1) h2
      simp only [List.concat_eq_append, List.getLastD_concat, h3]
theorem opens_sp (u : Str) (t v : Str) (hp : t <+: u) (ht : t ≠ []) (hv : SpV v) (h : lxOpens u = false) : lxOpens (t ++ v) = false := by
  match t, ht with
  | [a], _ =>
    rcases hv with rfl | ⟨w, rfl⟩
    · rfl
    · simp [lxOpens]
  | a :: b :: t, _ =>
    obtain ⟨q, rfl⟩ := hp
    exact h
theorem tail_sp (r : List Str) : SpV (Go.Lib.joinTail [32] r) := by
  cases r with
  | nil => exact .inl rfl
  | cons a r => exact .inr ⟨a ++ Go.Lib.joinTail [32] r, by simp [Go.Lib.joinTail]⟩
theorem tail_cons (a : Str) (r : List Str) : Go.Lib.joinTail [32] (a :: r) = 32 :: (a ++ Go.Lib.joinTail [32] r) := by simp [Go.Lib.joinTail]
theorem rescan_one (t : LTok) (r acc acc' : List LTok) (j n : Nat) (h : LexL acc (t :: r)) (ha : acc'.map bareT = acc.map bareT) (hn : (t.text ++ Go.Lib.joinTail [32] (r.map LTok.text)).length < n)
    (ih : ∀ (acc' : List LTok) (j n : Nat), acc'.map bareT = (acc ++ [t]).map bareT → (Go.Lib.joinTail [32] (r.map LTok.text)).length < n → ∃ new', scanF n j (Go.Lib.joinTail [32] (r.map LTok.text)) acc' = (acc' ++ new', 0, 0) ∧ new'.map bareT = r.map bareT) :
    ∃ new', scanF n j (t.text ++ Go.Lib.joinTail [32] (r.map LTok.text)) acc' = (acc' ++ new', 0, 0) ∧ new'.map bareT = (t :: r).map bareT := by
  obtain ⟨h1, ⟨u, hu, hub, huo, hue, hut⟩, h2⟩ := h
  obtain ⟨hp1, hp2, hp3⟩ := oneA_pre u _ hu hue
  have hv := tail_sp (r.map LTok.text)
  generalize Go.Lib.joinTail [32] (r.map LTok.text) = v at hv hn ih ⊢
  have hsp := oneA_sp u v _ hu hv hue
  have htx : (oneA u (tildeL acc)).2.text = t.text := congrArg (fun z => z.2.1) hut
  rw [htx] at hsp hp1 hp2
  rw [← tilde_bare _ _ ha] at hsp hut hue htx
  have hla : acc'.length = acc.length := by simpa using congrArg List.length ha
  have hop := opens_sp u t.text v hp1 hp2 hv huo
  have hhd : (t.text ++ v).headD 0 = u.headD 0 := by
    rw [headD_app _ _ hp2]
    obtain ⟨q, rfl⟩ := hp1
    rw [headD_app _ _ hp2]
  have hdr : (t.text ++ v).drop t.text.length = v := List.drop_left
  have hne : t.text ++ v ≠ [] := by simp [hp2]
  have hlen : v.length < n - 1 := by
    have := List.length_pos_iff.2 hp2
    rw [List.length_append] at hn
    omega
  obtain ⟨n, rfl⟩ : ∃ m, n = m + 1 := ⟨n - 1, by omega⟩
  generalize t.text ++ v = w at hsp hop hhd hdr hne hn ⊢
  obtain ⟨c, q, rfl⟩ := List.exists_cons_of_ne_nil hne
  have hb : blankC c = false := by rw [← hub, ← hhd]; rfl
  have hg : decide (acc'.length ≥ 16384) = false := by simp; omega
  rw [scanF, hb, hop, hg, hsp, decide_eq_true hue, htx]
  simp only [cond_false, cond_true]
  rw [hdr]
  obtain ⟨new', k1, k2⟩ := ih (acc' ++ [{ (oneA u (tildeL acc')).2 with pos := (j : Int) }]) (j + t.text.length) n (by rw [List.map_append, List.map_append, ha]; congr 1; simp only [List.map_cons, List.map_nil, List.cons.injEq, and_true]; rw [← hut]; rfl) hlen
  refine ⟨{ (oneA u (tildeL acc')).2 with pos := (j : Int) } :: new', by rw [k1]; simp, ?_⟩
  simp only [List.map_cons, k2, List.cons.injEq, and_true]
  rw [← hut]
  rfl
theorem rescan : ∀ (new acc acc' : List LTok) (j n : Nat), LexL acc new → acc'.map bareT = acc.map bareT → (Go.Lib.joinTail [32] (new.map LTok.text)).length < n →
    ∃ new', scanF n j (Go.Lib.joinTail [32] (new.map LTok.text)) acc' = (acc' ++ new', 0, 0) ∧ new'.map bareT = new.map bareT
  | [], acc, acc', j, n, _, _, hn => by
    cases n with
    | zero => simp at hn
    | succ n => exact ⟨[], by simp [Go.Lib.joinTail, scanF], rfl⟩
  | t :: r, acc, acc', j, n, h, ha, hn => by
    rw [List.map_cons, tail_cons] at hn ⊢
    simp only [List.length_cons] at hn
    obtain ⟨n, rfl⟩ : ∃ m, n = m + 1 := ⟨n - 1, by omega⟩
    have hb : blankC 32 = true := by decide
    rw [scanF, hb, cond_true]
    exact rescan_one t r acc acc' (j + 1) n h ha (by omega) fun acc2 j2 n2 ha2 hn2 => rescan r (acc ++ [t]) acc2 j2 n2 h.2.2 ha2 hn2
theorem scan_back (s : Str) (l : List LTok) (e p : Int) (h : lxScan s = (l, e, p)) (hl : s.length ≤ 3000) :
    (e = 0 ∧ p = 0 ∧ ChainL s 0 l ∧ totL l ≤ 6000 ∧ ∃ m, lxScan (showL l) = (m, 0, 0) ∧ m.map bareT = l.map bareT) ∨ (e ≠ 0 ∧ l = [] ∧ ∃ j : Nat, p = (j : Int) ∧ j < s.length) := by
  unfold lxScan at h
  rw [decide_eq_false (by omega), cond_false] at h
  rcases scanF_tells _ s [] 0 [] l e p (by omega) rfl h with ⟨k1, k2, new, k3, k4, k5⟩ | ⟨k1, k2, j, k3, k4⟩
  · rw [List.nil_append] at k3 k5
    subst k3
    have ht := k5.tot (Nat.zero_le _)
    have hs := showL_le l
    refine .inl ⟨k1, k2, k5, by omega, ?_⟩
    have hd : decide (((showL l).length : Int) > 65536) = false := by simp; omega
    unfold lxScan
    rw [hd, cond_false]
    cases l with
    | nil => exact ⟨[], by simp [showL, Go.Lib.join_nil, scanF], rfl⟩
    | cons t r =>
      have e1 : showL (t :: r) = t.text ++ Go.Lib.joinTail [32] (r.map LTok.text) := by unfold showL; rw [List.map_cons, Go.Lib.join_cons]
      rw [e1]
      obtain ⟨m, h1, h2⟩ := rescan_one t r [] [] 0 _ k4 rfl (Nat.lt_succ_self _) fun acc2 j2 n2 ha2 hn2 => rescan r ([] ++ [t]) acc2 j2 n2 k4.2.2 ha2 hn2
      exact ⟨m, by simpa using h1, h2⟩
  · exact .inr ⟨k1, k2, j, k3, by omega⟩
end Go.Am

namespace Go.Proofs.YtadhckhgemongaaDoor
open Go Go.Am
set_option linter.unusedVariables false
set_option maxRecDepth 4000
theorem same_loop (A B : List LTok) (x y : Slot) (hx : x.list? = some (A.map LTok.enc)) (hy : y.list? = some (B.map LTok.enc)) (hl : A.length < 2^30) (hb : B.length = A.length) : ∀ (suf pre sufB preB : List LTok) (s : St) (i : Nat), pre ++ suf = A → preB ++ sufB = B → i = pre.length → preB.length = pre.length → suf.map bareT = sufB.map bareT →
    ref04_Same_l0 x y (.val (.int .i64 (A.length : Int))) (.val (.int .i64 (i : Int))) s = some (.ret (.val (.bool true)), s) := by
  intro suf
  induction suf with
  | nil =>
    intro pre sufB preB s i h h' hi hp he
    rw [List.append_nil] at h
    subst h hi
    rw [ref04_Same_l0_eq]
    simp only [go_sem, Nat.reduceAdd, Nat.reduceLeDiff, Nat.reduceSub, Nat.reduceMul, Nat.reduceEqDiff, Int.reduceEq, Int.reduceLT, Int.reduceLE, Int.reduceAdd, Int.reduceSub, Int.reduceNeg, Int.reduceGT, Int.reduceGE, Int.reduceNe, ne_eq, not_false_eq_true, Int.lt_irrefl]
  | cons c suf ih =>
    intro pre sufB preB s i h h' hi hp he
    subst hi
    cases sufB with
    | nil => simp at he
    | cons d sufB =>
      simp only [List.map_cons, List.cons.injEq] at he
      obtain ⟨he1, he2⟩ := he
      obtain ⟨f1, f2, f3⟩ := step_facts (f := LTok.enc) (x := x) (sz := 4) hx h (by omega) (LTok.cells_len _) (by decide)
      obtain ⟨g1, g2, g3⟩ := step_facts (f := LTok.enc) (x := y) (sz := 4) hy h' (by omega) (LTok.cells_len _) (by decide)
      rw [hp] at g2
      have := ih (pre ++ [c]) sufB (preB ++ [d]) s (pre.length + 1) (by simp [h]) (by simp [h']) (by simp) (by simp [hp]) he2
      obtain ⟨c1, c2, c3, c4⟩ := c
      obtain ⟨d1, d2, d3, d4⟩ := d
      simp only [bareT, Prod.mk.injEq] at he1
      obtain ⟨rfl, rfl, rfl⟩ := he1
      rw [ref04_Same_l0_eq]
      simp only [LTok.enc, LTok.cells_mk] at f2 g2
      simp only [go_sem, Nat.reduceAdd, Nat.reduceLeDiff, Nat.reduceSub, Nat.reduceMul, Nat.reduceEqDiff, Int.reduceEq, Int.reduceLT, Int.reduceLE, Int.reduceAdd, Int.reduceSub, Int.reduceNeg, Int.reduceGT, Int.reduceGE, Int.reduceNe, ne_eq, not_false_eq_true, f1, f2, f3, g2]
      exact this
theorem ref04_Same_spec (A B : List LTok) (a b : AV) (ha : (Slot.val a).list? = some (A.map LTok.enc)) (hb : (Slot.val b).list? = some (B.map LTok.enc)) (hl : A.length < 2^30) (he : A.map bareT = B.map bareT) (s : St) : cw (.f F_ref04_Same) [a, b] s = some (.ret (.val (.bool true)), s) := by
  have hlen : A.length = B.length := by simpa using congrArg List.length he
  rw [ref04_Same_eq]
  simp only [go_sem, Nat.reduceAdd, Nat.reduceLeDiff, Nat.reduceSub, Nat.reduceMul, Nat.reduceEqDiff, Int.reduceEq, Int.reduceLT, Int.reduceLE, Int.reduceAdd, Int.reduceSub, Int.reduceNeg, Int.reduceGT, Int.reduceGE, Int.reduceNe, ne_eq, not_false_eq_true, ha, hb]
  rw [← hlen]
  simp only [go_sem, Nat.reduceAdd, Nat.reduceLeDiff, Nat.reduceSub, Nat.reduceMul, Nat.reduceEqDiff, Int.reduceEq, Int.reduceLT, Int.reduceLE, Int.reduceAdd, Int.reduceSub, Int.reduceNeg, Int.reduceGT, Int.reduceGE, Int.reduceNe, ne_eq, not_false_eq_true]
  exact same_loop A B _ _ ha hb hl hlen.symm A [] B [] s 0 rfl rfl rfl rfl he
theorem clone_spec (l : List Str) (h0 : l ≠ []) (hl : l.length < 2^20) (s : St) : ∃ x s', cw (.f F_slices_Clone_Sstring_string) [.sl (l.map .str)] s = some (.ret x, s') ∧ x.list? = some (l.map .str) ∧ Grew s s' := by
  rw [slices_Clone_Sstring_string_eq]
  have hn : binS (C.ti T_S_string) .eql (.val (.sl (l.map .str))) (.val .nils) = some (.val (.bool false)) := by simp only [binS, av_val, eqS, T_S_string_k]; rfl
  obtain ⟨x, s', h1, h2⟩ := AccR.appendF (f := AV.str) (t := C.ti T_string) (A := []) (B := l) (y := .val (.sl (l.map .str))) (AccR.full T_string s []) rfl (fun a => by rw [T_string_size]; rfl) (by rw [T_string_size]; decide) (by simp; omega) (by rw [T_string_bytes]; decide)
  simp only [go_sem, Nat.reduceAdd, Nat.reduceLeDiff, Nat.reduceSub, Nat.reduceMul, Nat.reduceEqDiff, Int.reduceEq, Int.reduceLT, Int.reduceLE, Int.reduceAdd, Int.reduceSub, Int.reduceNeg, Int.reduceGT, Int.reduceGE, Int.reduceNe, ne_eq, not_false_eq_true, hn, h1]
  exact ⟨x, s', rfl, by simpa using h2.list?, h2.grew⟩
theorem lex_Words_spec (s : St) : ∃ x s', cw (.f F_lex_Words) [] s = some (.ret x, s') ∧ x.list? = some (lwords.map .str) ∧ Grew s s' := by
  rw [lex_Words_eq, words_slice]
  obtain ⟨x, s', h1, h2, h3⟩ := clone_spec lwords (by decide) (by decide) s
  simp only [go_sem, Nat.reduceAdd, Nat.reduceLeDiff, Nat.reduceSub, Nat.reduceMul, Nat.reduceEqDiff, Int.reduceEq, Int.reduceLT, Int.reduceLE, Int.reduceAdd, Int.reduceSub, Int.reduceNeg, Int.reduceGT, Int.reduceGE, Int.reduceNe, ne_eq, not_false_eq_true, h1]
  exact ⟨x, s', rfl, h2, h3⟩
theorem lex_Signs_spec (s : St) : ∃ x s', cw (.f F_lex_Signs) [] s = some (.ret x, s') ∧ x.list? = some (lsigns.map .str) ∧ Grew s s' := by
  rw [lex_Signs_eq, signs_slice]
  obtain ⟨x, s', h1, h2, h3⟩ := clone_spec lsigns (by decide) (by decide) s
  simp only [go_sem, Nat.reduceAdd, Nat.reduceLeDiff, Nat.reduceSub, Nat.reduceMul, Nat.reduceEqDiff, Int.reduceEq, Int.reduceLT, Int.reduceLE, Int.reduceAdd, Int.reduceSub, Int.reduceNeg, Int.reduceGT, Int.reduceGE, Int.reduceNe, ne_eq, not_false_eq_true, h1]
  exact ⟨x, s', rfl, h2, h3⟩
theorem beqi (x y : Int) : (x == y) = decide (x = y) := by rw [Bool.eq_iff_iff]; simp
theorem bad_eql (a b c d : Int) (x y : Str) : binS (C.ti T_Bad) .eql (.val (.agg [.int .i64 a, .int .i64 b, .str x])) (.val (.agg [.int .i64 c, .int .i64 d, .str y])) = some (.val (.bool (decide (a = c) && (decide (b = d) && decide (x = y))))) := by
  simp only [binS, av_val, eqS, T_Bad_k, T_Bad_flat, List.isEmpty_cons, cond_false, eqAll, TK.has, decide_true, Bool.and_self, cond_true, AV.eqb, if_true, beqd, beqi]
  generalize decide (a = c) = p; generalize decide (b = d) = q; generalize decide (x = y) = r
  cases p <;> cases q <;> cases r <;> rfl
theorem bad_neq (a b c d : Int) (x y : Str) : binS (C.ti T_Bad) .neq (.val (.agg [.int .i64 a, .int .i64 b, .str x])) (.val (.agg [.int .i64 c, .int .i64 d, .str y])) = some (.val (.bool (!(decide (a = c) && (decide (b = d) && decide (x = y)))))) := by
  simp only [binS, av_val, eqS, T_Bad_k, T_Bad_flat, List.isEmpty_cons, cond_false, eqAll, TK.has, decide_true, Bool.and_self, cond_true, AV.eqb, if_true, beqd, beqi]
  generalize decide (a = c) = p; generalize decide (b = d) = q; generalize decide (x = y) = r
  cases p <;> cases q <;> cases r <;> rfl
def know1 : Str := [118, 97, 108, 32, 120, 39, 61, 126, 49, 50, 40, 42, 97, 40, 42, 98, 42, 41, 42, 41]
theorem know1_scan : lxScan know1 = ([⟨5, 0, [118, 97, 108], 0⟩, ⟨2, 4, [120, 39], 0⟩, ⟨6, 6, [61], 0⟩, ⟨6, 7, [126], 0⟩, ⟨1, 8, [49, 50], 12⟩], 0, 0) := by decide +kernel
theorem know2_scan : lxScan [97, 32, 40, 42, 32, 98] = ([], 12, 2) := by decide +kernel
theorem law04_knows_spec (s : St) : ∃ s', cw (.f F_law04_knows) [] s = some (.ret (.val (.bool true)), s') ∧ Grew s s' := by
  rw [law04_knows_eq]
  obtain ⟨n1, s1, h1, g1⟩ := lex_Scan_spec know1 (by decide) s
  rw [know1_scan] at h1
  obtain ⟨n2, s2, h2, g2⟩ := lex_Scan_spec [97, 32, 40, 42, 32, 98] (by decide) s1
  rw [know2_scan] at h2
  obtain ⟨x3, s3, h3, l3, g3⟩ := lex_Words_spec s2
  obtain ⟨x4, s4, h4, l4, g4⟩ := lex_Signs_spec s3
  unfold know1 at h1
  simp only [badEnc, LTok.enc, LTok.cells_mk, List.map_cons, List.map_nil, encS_cons] at h1 h2
  have e5 : decide (((5 : Nat) : Int) = 5) = true := rfl
  have e24 : decide (((lwords.length : Nat) : Int) = 24) = true := by decide
  have e19 : decide (((lsigns.length : Nat) : Int) = 19) = true := by decide
  have ix1 : ixS 4 (.val (.sl [.agg [.int .i64 5, .int .i64 0, .str [118, 97, 108], .int .i64 0], .agg [.int .i64 2, .int .i64 4, .str [120, 39], .int .i64 0], .agg [.int .i64 6, .int .i64 6, .str [61], .int .i64 0], .agg [.int .i64 6, .int .i64 7, .str [126], .int .i64 0], .agg [.int .i64 1, .int .i64 8, .str [49, 50], .int .i64 12]])) (.val (.int .i64 1)) = some (.val (.cp [.int .i64 2, .int .i64 4, .str [120, 39], .int .i64 0])) := rfl
  have ix4 : ixS 4 (.val (.sl [.agg [.int .i64 5, .int .i64 0, .str [118, 97, 108], .int .i64 0], .agg [.int .i64 2, .int .i64 4, .str [120, 39], .int .i64 0], .agg [.int .i64 6, .int .i64 6, .str [61], .int .i64 0], .agg [.int .i64 6, .int .i64 7, .str [126], .int .i64 0], .agg [.int .i64 1, .int .i64 8, .str [49, 50], .int .i64 12]])) (.val (.int .i64 4)) = some (.val (.cp [.int .i64 1, .int .i64 8, .str [49, 50], .int .i64 12])) := rfl
  simp only [go_sem, Nat.reduceAdd, Nat.reduceLeDiff, Nat.reduceSub, Nat.reduceMul, Nat.reduceEqDiff, Int.reduceEq, Int.reduceLT, Int.reduceLE, Int.reduceAdd, Int.reduceSub, Int.reduceNeg, Int.reduceGT, Int.reduceGE, Int.reduceNe, ne_eq, not_false_eq_true, h1, h2, h3, h4, l3, l4, bad_eql, ix1, ix4, e5, e24, e19]
  exact ⟨s4, rfl, ((g1.trans g2).trans g3).trans g4⟩
end Go.Proofs.YtadhckhgemongaaDoor

namespace Go.Proofs.YtadhckhgemongaaDoor
open Go Go.Am
set_option linter.unusedVariables false
set_option maxRecDepth 4000
theorem strL_map : ∀ l : List Str, strL (l.map AV.str) = some l
  | [] => rfl
  | a :: l => by simp only [List.map_cons, strL, strL_map l]
theorem join_spec (l : List Str) (a : AV) (ha : (Slot.val a).list? = some (l.map .str)) (h1 : l.length ≤ 140737488355328) (h2 : (Go.Lib.join l [32]).length ≤ 140737488355328) (s : St) : cw (.f F_strings_Join) [a, .str [32]] s = some (.ret (.val (.str (Go.Lib.join l [32]))), s) := by
  have e : C.ext F_strings_Join = some extJoin := by kernel_rfl
  rw [cw, callw_f]; unfold callR; rw [e]
  simp only [extJoin, ha, strL_map]
  rw [if_pos ⟨h1, h2⟩]
theorem make_acc (et : TypeId) (t : TI) (s : St) (n : Int) (h0 : 0 ≤ n) (hn : n < 2^40) (hb : t.bytes ≤ 64) (hs : t.size = 1) (z : AV) (hz : ofCells t t.zero = some z) :
    ∃ x s', makeS et t s (.val (.int .i64 0)) (.val (.int .i64 n)) = some (x, s') ∧ AccR et s s' x [] := by
  have h1 : n * (t.bytes : Int) ≤ n * 64 := Int.mul_le_mul_of_nonneg_left (by omega) h0
  refine ⟨.own s.toks.length et [], { s with toks := s.toks ++ [0] }, ?_, ⟨(Grew.refl s).pushTok 0, .inr (.inr ⟨s.toks.length, rfl, Nat.le_refl _, by simp⟩)⟩⟩
  simp only [makeS, hz]
  rw [if_pos ⟨Int.le_refl _, h0, by omega, by omega, by omega⟩]
  rfl
theorem lexShow_loop (L : List LTok) (a : AV) (ha : (Slot.val a).list? = some (L.map LTok.enc)) (hl : totL L < 2^28) (s0 : St) : ∀ (suf pre : List LTok) (x : Slot) (s : St) (i : Nat), pre ++ suf = L → i = pre.length → AccR T_string s0 s x ((pre.map LTok.text).map .str) →
    ∃ s', lex_Show_l0 x (.val a) (.val (.int .i64 (L.length : Int))) (.val (.int .i64 (i : Int))) s = some (.ret (.val (.str (showL L))), s') ∧ Grew s0 s' := by
  have hlen := totL_len L
  have hsh := showL_le L
  intro suf
  induction suf with
  | nil =>
    intro pre x s i h hi ac
    rw [List.append_nil] at h
    subst h hi
    obtain ⟨nl, hx⟩ := ac.av
    have hj := join_spec (pre.map LTok.text) (encS nl ((pre.map LTok.text).map .str)) (list?_encS _ _) (by simp; omega) (by unfold showL at hsh; omega) s
    rw [lex_Show_l0_eq]
    simp only [List.map_map] at hj hx
    simp only [go_sem, Nat.reduceAdd, Nat.reduceLeDiff, Nat.reduceSub, Nat.reduceMul, Nat.reduceEqDiff, Int.reduceEq, Int.reduceLT, Int.reduceLE, Int.reduceAdd, Int.reduceSub, Int.reduceNeg, Int.reduceGT, Int.reduceGE, Int.reduceNe, ne_eq, not_false_eq_true, Int.lt_irrefl, avs_cons hx, hj]
    exact ⟨s, rfl, ac.grew⟩
  | cons c suf ih =>
    intro pre x s i h hi ac
    subst hi
    obtain ⟨f1, f2, f3⟩ := step_facts (f := LTok.enc) (x := .val a) (sz := 4) ha h (by omega) (LTok.cells_len _) (by decide)
    have hpl : pre.length < L.length := by rw [← h]; simp
    obtain ⟨x', s', ha2, ac'⟩ := AccR.appendF (f := AV.str) (t := C.ti T_string) (A := pre.map LTok.text) (B := [c.text]) (y := .full [.str c.text]) ac rfl (fun a => by rw [T_string_size]; rfl) (by rw [T_string_size]; decide) (by simp; omega) (by rw [T_string_bytes]; decide)
    obtain ⟨s2, h2, g2⟩ := ih (pre ++ [c]) x' s' (pre.length + 1) (by simp [h]) (by simp) (by simpa using ac')
    obtain ⟨c1, c2, c3, c4⟩ := c
    rw [lex_Show_l0_eq]
    simp only [LTok.enc, LTok.cells_mk] at f2
    simp only at ha2
    simp only [go_sem, Nat.reduceAdd, Nat.reduceLeDiff, Nat.reduceSub, Nat.reduceMul, Nat.reduceEqDiff, Int.reduceEq, Int.reduceLT, Int.reduceLE, Int.reduceAdd, Int.reduceSub, Int.reduceNeg, Int.reduceGT, Int.reduceGE, Int.reduceNe, ne_eq, not_false_eq_true, f1, f2, f3, ha2]
    exact ⟨s2, h2, g2⟩
theorem lex_Show_spec (L : List LTok) (a : AV) (ha : (Slot.val a).list? = some (L.map LTok.enc)) (hl : totL L < 2^28) (s : St) : ∃ s', cw (.f F_lex_Show) [a] s = some (.ret (.val (.str (showL L))), s') ∧ Grew s s' := by
  have hlen := totL_len L
  obtain ⟨x, s1, h1, a1⟩ := make_acc T_string (C.ti T_string) s (L.length : Int) (by omega) (by omega) (by rw [T_string_bytes]; decide) T_string_size (.str []) (by rw [T_string_zero]; rfl)
  obtain ⟨s2, h2, g2⟩ := lexShow_loop L a ha hl s L [] x s1 0 rfl rfl a1
  rw [lex_Show_eq]
  simp only [go_sem, Nat.reduceAdd, Nat.reduceLeDiff, Nat.reduceSub, Nat.reduceMul, Nat.reduceEqDiff, Int.reduceEq, Int.reduceLT, Int.reduceLE, Int.reduceAdd, Int.reduceSub, Int.reduceNeg, Int.reduceGT, Int.reduceGE, Int.reduceNe, ne_eq, not_false_eq_true, ha, h1]
  exact ⟨s2, h2, g2⟩
end Go.Proofs.YtadhckhgemongaaDoor

namespace Go.Proofs.YtadhckhgemongaaDoor
open Go Go.Am
set_option linter.unusedVariables false
set_option maxRecDepth 4000
theorem back_loop (L : Str) (hl : L.length ≤ 3000) (A : List LTok) (x : Slot) (hx : x.list? = some (A.map LTok.enc)) (hA : A.length < 2^30) : ∀ (suf pre : List LTok) (s : St) (i e : Nat), pre ++ suf = A → i = pre.length → ChainL L e suf →
    ∃ s', law04_LexBack_l0 (.val (.str L)) x (.val (.int .i64 (e : Int))) (.val (.int .i64 (A.length : Int))) (.val (.int .i64 (i : Int))) s = some (.ret (.val (.bool true)), s') ∧ Grew s s' := by
  intro suf
  induction suf with
  | nil =>
    intro pre s i e h hi hc
    rw [List.append_nil] at h
    subst h hi
    obtain ⟨s3, h3, g3⟩ := law04_knows_spec s
    rw [law04_LexBack_l0_eq]
    simp only [go_sem, Nat.reduceAdd, Nat.reduceLeDiff, Nat.reduceSub, Nat.reduceMul, Nat.reduceEqDiff, Int.reduceEq, Int.reduceLT, Int.reduceLE, Int.reduceAdd, Int.reduceSub, Int.reduceNeg, Int.reduceGT, Int.reduceGE, Int.reduceNe, ne_eq, not_false_eq_true, Int.lt_irrefl, h3]
    exact ⟨s3, rfl, g3⟩
  | cons c suf ih =>
    intro pre s i e h hi hc
    subst hi
    obtain ⟨f1, f2, f3⟩ := step_facts (f := LTok.enc) (x := x) (sz := 4) hx h (by omega) (LTok.cells_len _) (by decide)
    obtain ⟨p, h1, h2, h3, h4, h5, h6⟩ := hc
    obtain ⟨s3, k1, k2⟩ := ih (pre ++ [c]) s (pre.length + 1) (p + c.text.length) (by simp [h]) (by simp) h6
    obtain ⟨c1, c2, c3, c4⟩ := c
    simp only at h1 h2 h3 h4 h5 k1
    subst h1
    have b1 : decide ((p : Int) < (e : Int)) = false := by simp; omega
    have b2 : decide (c3 = []) = false := decide_eq_false h3
    have b3 : decide (((p + c3.length : Nat) : Int) > (L.length : Int)) = false := by simp; omega
    have hs := sliceS_mid (t := C.ti T_string) T_string_k (l := L) (i := p) (j := p + c3.length) (by omega) h4
    rw [List.drop_take, Nat.add_sub_cancel_left, h5] at hs
    have e1 : (p : Int) + (c3.length : Int) = ((p + c3.length : Nat) : Int) := by omega
    rw [law04_LexBack_l0_eq]
    simp only [LTok.enc, LTok.cells_mk] at f2
    simp only [go_sem, Nat.reduceAdd, Nat.reduceLeDiff, Nat.reduceSub, Nat.reduceMul, Nat.reduceEqDiff, Int.reduceEq, Int.reduceLT, Int.reduceLE, Int.reduceAdd, Int.reduceSub, Int.reduceNeg, Int.reduceGT, Int.reduceGE, Int.reduceNe, ne_eq, not_false_eq_true, f1, f2, b1, b2]
    rw [wrap64 (n := (p : Int) + (c3.length : Int)) (by omega) (by omega), e1]
    simp only [go_sem, Nat.reduceAdd, Nat.reduceLeDiff, Nat.reduceSub, Nat.reduceMul, Nat.reduceEqDiff, Int.reduceEq, Int.reduceLT, Int.reduceLE, Int.reduceAdd, Int.reduceSub, Int.reduceNeg, Int.reduceGT, Int.reduceGE, Int.reduceNe, ne_eq, not_false_eq_true, b3, hs, f3]
    exact ⟨s3, k1, k2⟩
theorem law04_LexBack_spec (L : Str) (hl : L.length < 2^60) (s : St) : ∃ s', cw (.f F_law04_LexBack) [.str L] s = some (.ret (.val (.bool true)), s') ∧ Grew s s' := by
  rw [law04_LexBack_eq]
  simp only [go_sem, Nat.reduceAdd, Nat.reduceLeDiff, Nat.reduceSub, Nat.reduceMul, Nat.reduceEqDiff, Int.reduceEq, Int.reduceLT, Int.reduceLE, Int.reduceAdd, Int.reduceSub, Int.reduceNeg, Int.reduceGT, Int.reduceGE, Int.reduceNe, ne_eq, not_false_eq_true]
  cases hb : decide ((L.length : Int) > 3000)
  · have hl3 : L.length ≤ 3000 := by simp at hb; omega
    simp only [go_sem, Nat.reduceAdd, Nat.reduceLeDiff, Nat.reduceSub, Nat.reduceMul, Nat.reduceEqDiff, Int.reduceEq, Int.reduceLT, Int.reduceLE, Int.reduceAdd, Int.reduceSub, Int.reduceNeg, Int.reduceGT, Int.reduceGE, Int.reduceNe, ne_eq, not_false_eq_true]
    obtain ⟨n1, s1, h1, g1⟩ := lex_Scan_spec L hl s
    have hback := scan_back L
    have hfew := scan_few L
    generalize lxScan L = z at h1 hback hfew
    obtain ⟨l, e, p⟩ := z
    simp only [badEnc] at h1
    simp only [go_sem, Nat.reduceAdd, Nat.reduceLeDiff, Nat.reduceSub, Nat.reduceMul, Nat.reduceEqDiff, Int.reduceEq, Int.reduceLT, Int.reduceLE, Int.reduceAdd, Int.reduceSub, Int.reduceNeg, Int.reduceGT, Int.reduceGE, Int.reduceNe, ne_eq, not_false_eq_true, h1, bad_neq, list?_encS]
    rcases hback l e p rfl hl3 with ⟨rfl, rfl, hch, htot, m, hm1, hm2⟩ | ⟨he, rfl, j, rfl, hj⟩
    · obtain ⟨s2, h2, g2⟩ := lex_Show_spec l (encS n1 (l.map LTok.enc)) (list?_encS _ _) (by omega) s1
      obtain ⟨n3, s3, h3, g3⟩ := lex_Scan_spec (showL l) (by have := showL_le l; omega) s2
      rw [hm1] at h3
      simp only [badEnc] at h3
      have hlf := totL_len l
      have hsame := ref04_Same_spec l m (encS n1 (l.map LTok.enc)) (encS n3 (m.map LTok.enc)) (list?_encS _ _) (list?_encS _ _) (by omega) hm2.symm s3
      obtain ⟨s4, h4, g4⟩ := back_loop L hl3 l (.val (encS n1 (l.map LTok.enc))) (list?_encS _ _) (by omega) l [] s3 0 0 rfl rfl hch
      simp only [go_sem, Nat.reduceAdd, Nat.reduceLeDiff, Nat.reduceSub, Nat.reduceMul, Nat.reduceEqDiff, Int.reduceEq, Int.reduceLT, Int.reduceLE, Int.reduceAdd, Int.reduceSub, Int.reduceNeg, Int.reduceGT, Int.reduceGE, Int.reduceNe, ne_eq, not_false_eq_true, h2, h3, bad_neq, hsame]
      exact ⟨s4, h4, ((g1.trans g2).trans g3).trans g4⟩
    · obtain ⟨s3, h3, g3⟩ := law04_knows_spec s1
      have b1 : decide (e = 0) = false := decide_eq_false he
      have b2 : decide ((j : Int) ≥ 0) = true := by simp
      have b3 : decide ((j : Int) < (L.length : Int)) = true := by simp; omega
      simp only [go_sem, Nat.reduceAdd, Nat.reduceLeDiff, Nat.reduceSub, Nat.reduceMul, Nat.reduceEqDiff, Int.reduceEq, Int.reduceLT, Int.reduceLE, Int.reduceAdd, Int.reduceSub, Int.reduceNeg, Int.reduceGT, Int.reduceGE, Int.reduceNe, ne_eq, not_false_eq_true, b1, b2, b3, h3]
      exact ⟨s3, rfl, g1.trans g3⟩
  · simp only [go_sem, Nat.reduceAdd, Nat.reduceLeDiff, Nat.reduceSub, Nat.reduceMul, Nat.reduceEqDiff, Int.reduceEq, Int.reduceLT, Int.reduceLE, Int.reduceAdd, Int.reduceSub, Int.reduceNeg, Int.reduceGT, Int.reduceGE, Int.reduceNe, ne_eq, not_false_eq_true]
    obtain ⟨s3, h3, g3⟩ := law04_knows_spec s
    rw [h3]
    simp only [go_sem, Nat.reduceAdd, Nat.reduceLeDiff, Nat.reduceSub, Nat.reduceMul, Nat.reduceEqDiff, Int.reduceEq, Int.reduceLT, Int.reduceLE, Int.reduceAdd, Int.reduceSub, Int.reduceNeg, Int.reduceGT, Int.reduceGE, Int.reduceNe, ne_eq, not_false_eq_true]
    exact ⟨s3, rfl, g3⟩
theorem law04_LexBack_row (x : Str) (g : x.length < 2^24) (hb : 0 ≤ 1048576) : Ret (cw (.f F_law04_LexBack) [.str x] st0) st0 (.bool true) := law04_LexBack_spec x (by omega) st0
end Go.Proofs.YtadhckhgemongaaDoor
