/- A part of the proof: SLex3, SLex4, PLex3, SLexK, PLex4, LLexCut. -/
import Derived.Test.YtadhckhgemongaaDoorM3
set_option linter.unusedVariables false
set_option linter.unusedSimpArgs false
namespace Go.Proofs.YtadhckhgemongaaDoor
open Go Go.Am
set_option linter.unusedVariables false
set_option maxRecDepth 4000
section
variable (t : Str) (hl : t.length < 2^60) (s : St)
include hl
theorem upto_dig : cw (.f F_lex_one_1) [.int .i64 0, .fn F_lex_digit [], .cp [.str t]] s = some (.ret (.val (.str (t.takeWhile digC))), s) :=
  upto_spec F_lex_digit digB lex_digit_spec [] t 0 rfl (by simpa using (by omega : t.length < 2^62)) s
theorem upto_amo : cw (.f F_lex_one_1) [.int .i64 0, .fn F_lex_among [], .cp [.str t]] s = some (.ret (.val (.str (t.takeWhile amoC))), s) :=
  upto_spec F_lex_among amoB lex_among_spec [] t 0 rfl (by simpa using (by omega : t.length < 2^62)) s
theorem upto_amo1 (h0 : t ≠ []) : cw (.f F_lex_one_1) [.int .i64 1, .fn F_lex_among [], .cp [.str t]] s = some (.ret (.val (.str (t.take 1 ++ (t.drop 1).takeWhile amoC))), s) := by
  have h1 : (t.take 1).length = 1 := by cases t with | nil => exact absurd rfl h0 | cons a r => rfl
  have := upto_spec F_lex_among amoB lex_among_spec (t.take 1) (t.drop 1) 1 h1.symm (by rw [List.take_append_drop]; omega) s
  rw [List.take_append_drop] at this
  exact this
end
theorem toNat_eq (c : UInt8) (n : Nat) (h : n < 256) : decide ((c.toNat : Int) = (n : Int)) = decide (c = UInt8.ofNat n) := by
  rw [decide_eq_decide]
  constructor
  · intro h'
    apply UInt8.toNat_inj.1
    simp only [UInt8.toNat_ofNat']
    omega
  · intro h'
    rw [h']
    simp only [UInt8.toNat_ofNat']
    omega
theorem lex_one_rest (t : Str) (td : Bool) (hl : t.length < 2^60) (s : St) (z : List Slot) (hz : z.length = 4) :
    lex_one_j0 (.val (.cp [.str t])) z s = some (.ret (.val (.tup [(restA t).2.enc, .int .i64 (restA t).1])), s) := by
  rw [lex_one_j0_eq]
  have hs := lex_sign_spec t (by omega) s
  obtain ⟨a, b, c, d, rfl⟩ : ∃ a b c d, z = [a, b, c, d] := by
    match z, hz with
    | [a, b, c, d], _ => exact ⟨a, b, c, d, rfl⟩
  simp only [go_sem, Nat.reduceAdd, Nat.reduceLeDiff, Nat.reduceSub, Nat.reduceMul, Nat.reduceEqDiff, Int.reduceEq, Int.reduceLT, Int.reduceLE, Int.reduceAdd, Int.reduceSub, Int.reduceNeg, Int.reduceGT, Int.reduceGE, Int.reduceNe, ne_eq, not_false_eq_true, hs]
  unfold restA
  cases decide (signA t = [])
  · simp only [go_sem, Nat.reduceAdd, Nat.reduceLeDiff, Nat.reduceSub, Nat.reduceMul, Nat.reduceEqDiff, Int.reduceEq, Int.reduceLT, Int.reduceLE, Int.reduceAdd, Int.reduceSub, Int.reduceNeg, Int.reduceGT, Int.reduceGE, Int.reduceNe, ne_eq, not_false_eq_true]; rfl
  · simp only [go_sem, Nat.reduceAdd, Nat.reduceLeDiff, Nat.reduceSub, Nat.reduceMul, Nat.reduceEqDiff, Int.reduceEq, Int.reduceLT, Int.reduceLE, Int.reduceAdd, Int.reduceSub, Int.reduceNeg, Int.reduceGT, Int.reduceGE, Int.reduceNe, ne_eq, not_false_eq_true]; rfl
theorem get1 {t : Str} (h : 1 < t.length) : t[1]? = some ((t.drop 1).headD 0) := by
  match t, h with
  | a :: b :: r, _ => rfl
theorem lex_one_spec (t : Str) (td : Bool) (h0 : t ≠ []) (hl : t.length < 2^60) (s : St) :
    cw (.f F_lex_one) [.str t, .bool td] s = some (.ret (.val (.tup [(oneA t td).2.enc, .int .i64 (oneA t td).1])), s) := by
  rw [lex_one_eq]
  have hr := lex_one_rest t td hl s [.val (.int .i64 0), .val (.int .i64 0), .val (.str []), .val (.int .i64 0)] rfl
  have hn : digC (t.headD 0) = true → t.takeWhile digC ≠ [] ∧ (t.takeWhile digC).all digC = true := fun h => by
    cases t with
    | nil => exact absurd rfl h0
    | cons c r =>
      have h : digC c = true := h
      refine ⟨by simp [List.takeWhile_cons, h], ?_⟩
      exact List.all_takeWhile
  have hld : (t.takeWhile digC).length ≤ t.length := takeWhile_length_le _ _
  have hla : (t.takeWhile amoC).length ≤ t.length := takeWhile_length_le _ _
  unfold oneA
  simp only [go_sem, Nat.reduceAdd, Nat.reduceLeDiff, Nat.reduceSub, Nat.reduceMul, Nat.reduceEqDiff, Int.reduceEq, Int.reduceLT, Int.reduceLE, Int.reduceAdd, Int.reduceSub, Int.reduceNeg, Int.reduceGT, Int.reduceGE, Int.reduceNe, ne_eq, not_false_eq_true, indexS_zero T_string_k h0, lex_digit_spec, lex_first_spec, upto_dig t hl, upto_amo t hl]
  rw [show digB ((t.headD 0).toNat : Int) = digC (t.headD 0) from rfl, show firB ((t.headD 0).toNat : Int) = firC (t.headD 0) from rfl]
  cases hd : digC (t.headD 0)
  · simp only [go_sem, Nat.reduceAdd, Nat.reduceLeDiff, Nat.reduceSub, Nat.reduceMul, Nat.reduceEqDiff, Int.reduceEq, Int.reduceLT, Int.reduceLE, Int.reduceAdd, Int.reduceSub, Int.reduceNeg, Int.reduceGT, Int.reduceGE, Int.reduceNe, ne_eq, not_false_eq_true]
    cases hf : firC (t.headD 0)
    · simp only [go_sem, Nat.reduceAdd, Nat.reduceLeDiff, Nat.reduceSub, Nat.reduceMul, Nat.reduceEqDiff, Int.reduceEq, Int.reduceLT, Int.reduceLE, Int.reduceAdd, Int.reduceSub, Int.reduceNeg, Int.reduceGT, Int.reduceGE, Int.reduceNe, ne_eq, not_false_eq_true]
      rw [show decide (((t.headD 0).toNat : Int) = 39) = decide (t.headD 0 = 39) from toNat_eq _ 39 (by decide)]
      cases h3 : decide (t.headD 0 = 39)
      · simp only [go_sem, Nat.reduceAdd, Nat.reduceLeDiff, Nat.reduceSub, Nat.reduceMul, Nat.reduceEqDiff, Int.reduceEq, Int.reduceLT, Int.reduceLE, Int.reduceAdd, Int.reduceSub, Int.reduceNeg, Int.reduceGT, Int.reduceGE, Int.reduceNe, ne_eq, not_false_eq_true, hr]
      · simp only [go_sem, Nat.reduceAdd, Nat.reduceLeDiff, Nat.reduceSub, Nat.reduceMul, Nat.reduceEqDiff, Int.reduceEq, Int.reduceLT, Int.reduceLE, Int.reduceAdd, Int.reduceSub, Int.reduceNeg, Int.reduceGT, Int.reduceGE, Int.reduceNe, ne_eq, not_false_eq_true]
        have e1 : decide ((t.length : Int) > 1) = decide (1 < t.length) := by rw [decide_eq_decide]; omega
        rw [e1]
        cases h4 : decide (1 < t.length)
        · simp only [go_sem, Nat.reduceAdd, Nat.reduceLeDiff, Nat.reduceSub, Nat.reduceMul, Nat.reduceEqDiff, Int.reduceEq, Int.reduceLT, Int.reduceLE, Int.reduceAdd, Int.reduceSub, Int.reduceNeg, Int.reduceGT, Int.reduceGE, Int.reduceNe, ne_eq, not_false_eq_true, hr]
        · have h5 := get1 (of_decide_eq_true h4)
          have h6 := indexS_str (t := C.ti T_string) (et := C.ti T_0) (n := 1) T_string_k h5
          simp only [Int.cast_ofNat_Int] at h6
          have h8 : (t.take 1 ++ (t.drop 1).takeWhile amoC).length ≤ t.length := by
            have := takeWhile_length_le amoC (t.drop 1)
            simp only [List.length_append, List.length_take, List.length_drop] at *
            have := of_decide_eq_true h4
            omega
          have hu := upto_amo1 t hl s h0
          generalize t.take 1 ++ (t.drop 1).takeWhile amoC = u at h8 hu ⊢
          simp only [go_sem, Nat.reduceAdd, Nat.reduceLeDiff, Nat.reduceSub, Nat.reduceMul, Nat.reduceEqDiff, Int.reduceEq, Int.reduceLT, Int.reduceLE, Int.reduceAdd, Int.reduceSub, Int.reduceNeg, Int.reduceGT, Int.reduceGE, Int.reduceNe, ne_eq, not_false_eq_true, h6, lex_first_spec, hu]
          rw [show firB (((t.drop 1).headD 0).toNat : Int) = firC ((t.drop 1).headD 0) from rfl]
          cases h7 : firC ((t.drop 1).headD 0)
          · simp only [go_sem, Nat.reduceAdd, Nat.reduceLeDiff, Nat.reduceSub, Nat.reduceMul, Nat.reduceEqDiff, Int.reduceEq, Int.reduceLT, Int.reduceLE, Int.reduceAdd, Int.reduceSub, Int.reduceNeg, Int.reduceGT, Int.reduceGE, Int.reduceNe, ne_eq, not_false_eq_true, hr]
          · simp only [go_sem, Nat.reduceAdd, Nat.reduceLeDiff, Nat.reduceSub, Nat.reduceMul, Nat.reduceEqDiff, Int.reduceEq, Int.reduceLT, Int.reduceLE, Int.reduceAdd, Int.reduceSub, Int.reduceNeg, Int.reduceGT, Int.reduceGE, Int.reduceNe, ne_eq, not_false_eq_true]
            rw [wrap64 (by omega) (by omega)]
            unfold tyvA
            cases decide ((u.length : Int) - 1 > 32)
            · simp only [go_sem, Nat.reduceAdd, Nat.reduceLeDiff, Nat.reduceSub, Nat.reduceMul, Nat.reduceEqDiff, Int.reduceEq, Int.reduceLT, Int.reduceLE, Int.reduceAdd, Int.reduceSub, Int.reduceNeg, Int.reduceGT, Int.reduceGE, Int.reduceNe, ne_eq, not_false_eq_true]; rfl
            · simp only [go_sem, Nat.reduceAdd, Nat.reduceLeDiff, Nat.reduceSub, Nat.reduceMul, Nat.reduceEqDiff, Int.reduceEq, Int.reduceLT, Int.reduceLE, Int.reduceAdd, Int.reduceSub, Int.reduceNeg, Int.reduceGT, Int.reduceGE, Int.reduceNe, ne_eq, not_false_eq_true]; rfl
    · simp only [go_sem, Nat.reduceAdd, Nat.reduceLeDiff, Nat.reduceSub, Nat.reduceMul, Nat.reduceEqDiff, Int.reduceEq, Int.reduceLT, Int.reduceLE, Int.reduceAdd, Int.reduceSub, Int.reduceNeg, Int.reduceGT, Int.reduceGE, Int.reduceNe, ne_eq, not_false_eq_true]
      have h9 : t.takeWhile amoC ≠ [] := by
        cases t with
        | nil => exact absurd rfl h0
        | cons c r =>
          have hf : firC c = true := hf
          have : amoC c = true := by unfold amoC amoB; unfold firC at hf; rw [hf]; rfl
          simp [List.takeWhile_cons, this]
      cases h3 : decide (t.takeWhile amoC = [95])
      · simp only [go_sem, Nat.reduceAdd, Nat.reduceLeDiff, Nat.reduceSub, Nat.reduceMul, Nat.reduceEqDiff, Int.reduceEq, Int.reduceLT, Int.reduceLE, Int.reduceAdd, Int.reduceSub, Int.reduceNeg, Int.reduceGT, Int.reduceGE, Int.reduceNe, ne_eq, not_false_eq_true]
        cases h4 : decide (((t.takeWhile amoC).length : Int) > 32)
        · simp only [go_sem, Nat.reduceAdd, Nat.reduceLeDiff, Nat.reduceSub, Nat.reduceMul, Nat.reduceEqDiff, Int.reduceEq, Int.reduceLT, Int.reduceLE, Int.reduceAdd, Int.reduceSub, Int.reduceNeg, Int.reduceGT, Int.reduceGE, Int.reduceNe, ne_eq, not_false_eq_true, lex_named_spec _ h9]; rfl
        · simp only [go_sem, Nat.reduceAdd, Nat.reduceLeDiff, Nat.reduceSub, Nat.reduceMul, Nat.reduceEqDiff, Int.reduceEq, Int.reduceLT, Int.reduceLE, Int.reduceAdd, Int.reduceSub, Int.reduceNeg, Int.reduceGT, Int.reduceGE, Int.reduceNe, ne_eq, not_false_eq_true]; rfl
      · simp only [go_sem, Nat.reduceAdd, Nat.reduceLeDiff, Nat.reduceSub, Nat.reduceMul, Nat.reduceEqDiff, Int.reduceEq, Int.reduceLT, Int.reduceLE, Int.reduceAdd, Int.reduceSub, Int.reduceNeg, Int.reduceGT, Int.reduceGE, Int.reduceNe, ne_eq, not_false_eq_true, hr]
  · obtain ⟨h1, h2⟩ := hn hd
    simp only [go_sem, Nat.reduceAdd, Nat.reduceLeDiff, Nat.reduceSub, Nat.reduceMul, Nat.reduceEqDiff, Int.reduceEq, Int.reduceLT, Int.reduceLE, Int.reduceAdd, Int.reduceSub, Int.reduceNeg, Int.reduceGT, Int.reduceGE, Int.reduceNe, ne_eq, not_false_eq_true, lex_number_spec _ td h1 h2 (by omega)]
    cases (numA (t.takeWhile digC) td).2
    · simp only [go_sem, Nat.reduceAdd, Nat.reduceLeDiff, Nat.reduceSub, Nat.reduceMul, Nat.reduceEqDiff, Int.reduceEq, Int.reduceLT, Int.reduceLE, Int.reduceAdd, Int.reduceSub, Int.reduceNeg, Int.reduceGT, Int.reduceGE, Int.reduceNe, ne_eq, not_false_eq_true]; rfl
    · simp only [go_sem, Nat.reduceAdd, Nat.reduceLeDiff, Nat.reduceSub, Nat.reduceMul, Nat.reduceEqDiff, Int.reduceEq, Int.reduceLT, Int.reduceLE, Int.reduceAdd, Int.reduceSub, Int.reduceNeg, Int.reduceGT, Int.reduceGE, Int.reduceNe, ne_eq, not_false_eq_true]; rfl
end Go.Proofs.YtadhckhgemongaaDoor

namespace Go.Proofs.YtadhckhgemongaaDoor
open Go Go.Am
set_option linter.unusedVariables false
set_option maxRecDepth 4000
theorem LTok.cells_mk (k p : Int) (t : Str) (n : Int) : (LTok.mk k p t n).cells = [.int .i64 k, .int .i64 p, .str t, .int .i64 n] := rfl
theorem tokAcc {s0 s : St} {x : Slot} {A : List LTok} {b : LTok} (a : AccR T_Tok s0 s x (A.map LTok.enc)) (b1 : A.length < 2^29) :
    ∃ x' s', appendS T_Tok (C.ti T_Tok) s x (.full [b.enc]) = some (x', s') ∧ AccR T_Tok s0 s' x' ((A ++ [b]).map LTok.enc) :=
  AccR.appendF (B := [b]) a rfl (fun a => by rw [T_Tok_size]; exact LTok.cells_len a) (by rw [T_Tok_size]; decide) (by simp; omega) (by rw [T_Tok_bytes]; decide)
theorem scan_end (acc : List LTok) (x : Slot) (s0 s : St) (a : AccR T_Tok s0 s x (acc.map LTok.enc)) (k p : Int) :
    ∃ nl s', lex_Scan_j0 [.val (.int .i64 0), .val (.int .i64 0), .val (.str [])] x [.val (.int .i64 k), .val (.int .i64 p), .val (.str [])] s = some (.ret (.val (.tup [encS nl ((bif decide (k = 0) then acc else []).map LTok.enc), badEnc k p])), s') ∧ Grew s0 s' := by
  rw [lex_Scan_j0_eq]
  obtain ⟨nl, hx⟩ := a.av
  simp only [go_sem, Nat.reduceAdd, Nat.reduceLeDiff, Nat.reduceSub, Nat.reduceMul, Nat.reduceEqDiff, Int.reduceEq, Int.reduceLT, Int.reduceLE, Int.reduceAdd, Int.reduceSub, Int.reduceNeg, Int.reduceGT, Int.reduceGE, Int.reduceNe, ne_eq, not_false_eq_true]
  cases decide (k = 0)
  · simp only [go_sem, Nat.reduceAdd, Nat.reduceLeDiff, Nat.reduceSub, Nat.reduceMul, Nat.reduceEqDiff, Int.reduceEq, Int.reduceLT, Int.reduceLE, Int.reduceAdd, Int.reduceSub, Int.reduceNeg, Int.reduceGT, Int.reduceGE, Int.reduceNe, ne_eq, not_false_eq_true]
    exact ⟨true, s, rfl, a.grew⟩
  · simp only [go_sem, Nat.reduceAdd, Nat.reduceLeDiff, Nat.reduceSub, Nat.reduceMul, Nat.reduceEqDiff, Int.reduceEq, Int.reduceLT, Int.reduceLE, Int.reduceAdd, Int.reduceSub, Int.reduceNeg, Int.reduceGT, Int.reduceGE, Int.reduceNe, ne_eq, not_false_eq_true, avsO_cons hx]
    exact ⟨nl, s, rfl, a.grew⟩
theorem last_facts {acc : List LTok} {x : Slot} (h : x.list? = some (acc.map LTok.enc)) (h0 : 0 < acc.length) : ixS 4 x (.val (.int .i64 ((acc.length : Int) - 1))) = some (.val (.cp (acc.getLastD .zero).cells)) := by
  have hne : acc ≠ [] := List.length_pos_iff.1 h0
  have e : (acc.length : Int) - 1 = ((acc.length - 1 : Nat) : Int) := by omega
  rw [e]
  have hg : acc[acc.length - 1]? = some (acc.getLastD .zero) := by
    rw [← List.getLast?_eq_getElem?, List.getLast?_eq_some_getLast hne, List.getLastD_eq_getLast?, List.getLast?_eq_some_getLast hne]
    rfl
  exact ixS_get (v := LTok.enc (acc.getLastD .zero)) h (by rw [List.getElem?_map, hg]; rfl) (LTok.cells_len _) (by decide)
theorem scan_loop (L : Str) (hl : L.length ≤ 65536) (s0 : St) : ∀ (fuel : Nat) (suf pre : Str) (acc : List LTok) (x : Slot) (s : St) (i : Nat), suf.length < fuel → pre ++ suf = L → i = pre.length → AccR T_Tok s0 s x (acc.map LTok.enc) → acc.length ≤ pre.length →
    ∃ nl s', lex_Scan_l0 (.val (.str L)) [.val (.int .i64 0), .val (.int .i64 0), .val (.str [])] x [.val (.int .i64 0), .val (.int .i64 0), .val (.str [])] (.val (.int .i64 (i : Int))) s =
      some (.ret (.val (.tup [encS nl ((scanF fuel i suf acc).1.map LTok.enc), badEnc (scanF fuel i suf acc).2.1 (scanF fuel i suf acc).2.2])), s') ∧ Grew s0 s' := by
  intro fuel
  induction fuel with
  | zero => intro suf pre acc x s i h; omega
  | succ n ih =>
    intro suf pre acc x s i hf h hi a hacc
    subst hi
    have hL : pre.length + suf.length = L.length := by rw [← h]; simp
    rw [lex_Scan_l0_eq]
    match suf, hf, h, hL with
    | [], _, h, hL =>
      have hb : decide ((pre.length : Int) < (L.length : Int)) = false := by simp; simp at hL; omega
      simp only [go_sem, Nat.reduceAdd, Nat.reduceLeDiff, Nat.reduceSub, Nat.reduceMul, Nat.reduceEqDiff, Int.reduceEq, Int.reduceLT, Int.reduceLE, Int.reduceAdd, Int.reduceSub, Int.reduceNeg, Int.reduceGT, Int.reduceGE, Int.reduceNe, ne_eq, not_false_eq_true, hb]
      exact scan_end acc x s0 s a 0 0
    | c :: r, hf, h, hL =>
      simp only [List.length_cons] at hL hf
      have hc : L[pre.length]? = some c := by rw [← h]; simp
      have hb : decide ((pre.length : Int) < (L.length : Int)) = true := by simp; omega
      have hfrom := sliceS_from (t := C.ti T_string) T_string_k (l := L) (i := pre.length) (by omega)
      have hdrop : L.drop pre.length = c :: r := by rw [← h]; simp
      rw [hdrop] at hfrom
      have hpre := hasPrefix_spec (c :: r) [40, 42] s
      have hop : (decide (([40, 42] : Str).length ≤ (c :: r).length) && decide ((c :: r).take ([40, 42] : Str).length = [40, 42])) = lxOpens (c :: r) := by
        cases r with
        | nil => rfl
        | cons b r => simp [lxOpens, Bool.decide_and]
      rw [hop] at hpre
      have hrem := lex_remark_spec pre (c :: r) (by rw [h]; omega) s
      rw [h] at hrem
      simp only [go_sem, Nat.reduceAdd, Nat.reduceLeDiff, Nat.reduceSub, Nat.reduceMul, Nat.reduceEqDiff, Int.reduceEq, Int.reduceLT, Int.reduceLE, Int.reduceAdd, Int.reduceSub, Int.reduceNeg, Int.reduceGT, Int.reduceGE, Int.reduceNe, ne_eq, not_false_eq_true, hb, indexS_str T_string_k hc, indexByte_spec, blank_eq, hfrom, hpre, hrem, a.list?]
      unfold scanF
      cases hbl : blankC c
      · simp only [go_sem, Nat.reduceAdd, Nat.reduceLeDiff, Nat.reduceSub, Nat.reduceMul, Nat.reduceEqDiff, Int.reduceEq, Int.reduceLT, Int.reduceLE, Int.reduceAdd, Int.reduceSub, Int.reduceNeg, Int.reduceGT, Int.reduceGE, Int.reduceNe, ne_eq, not_false_eq_true]
        cases hop2 : lxOpens (c :: r)
        · simp only [go_sem, Nat.reduceAdd, Nat.reduceLeDiff, Nat.reduceSub, Nat.reduceMul, Nat.reduceEqDiff, Int.reduceEq, Int.reduceLT, Int.reduceLE, Int.reduceAdd, Int.reduceSub, Int.reduceNeg, Int.reduceGT, Int.reduceGE, Int.reduceNe, ne_eq, not_false_eq_true]
          cases hge : decide (acc.length ≥ 16384)
          · have hge' : decide ((acc.length : Int) ≥ 16384) = false := by simp at hge ⊢; omega
            have hone := lex_one_spec (c :: r) (tildeL acc) (by simp) (by simp; omega) s
            have hp := oneA_pre (c :: r) (tildeL acc) (by simp)
            simp only [go_sem, Nat.reduceAdd, Nat.reduceLeDiff, Nat.reduceSub, Nat.reduceMul, Nat.reduceEqDiff, Int.reduceEq, Int.reduceLT, Int.reduceLE, Int.reduceAdd, Int.reduceSub, Int.reduceNeg, Int.reduceGT, Int.reduceGE, Int.reduceNe, ne_eq, not_false_eq_true, hge']
            rcases Nat.eq_zero_or_pos acc.length with h0 | h0
            case' inl =>
              have hz : decide ((acc.length : Int) > 0) = false := by simp [h0]
              have ht : tildeL acc = false := by unfold tildeL; rw [decide_eq_false (by omega)]; rfl
              rw [ht] at hone hp ⊢
              simp only [go_sem, Nat.reduceAdd, Nat.reduceLeDiff, Nat.reduceSub, Nat.reduceMul, Nat.reduceEqDiff, Int.reduceEq, Int.reduceLT, Int.reduceLE, Int.reduceAdd, Int.reduceSub, Int.reduceNeg, Int.reduceGT, Int.reduceGE, Int.reduceNe, ne_eq, not_false_eq_true, hz, hone]
              generalize oneA (c :: r) false = z at hp
            case' inr =>
              have hz : decide ((acc.length : Int) > 0) = true := by simp; omega
              have ht : tildeL acc = decide ((acc.getLastD .zero).text = [126]) := by unfold tildeL; rw [decide_eq_true h0]; rfl
              rw [ht] at hone hp ⊢
              simp only [go_sem, Nat.reduceAdd, Nat.reduceLeDiff, Nat.reduceSub, Nat.reduceMul, Nat.reduceEqDiff, Int.reduceEq, Int.reduceLT, Int.reduceLE, Int.reduceAdd, Int.reduceSub, Int.reduceNeg, Int.reduceGT, Int.reduceGE, Int.reduceNe, ne_eq, not_false_eq_true, hz]
              rw [wrap64 (by omega) (by omega), last_facts a.list? h0]
              simp only [go_sem, Nat.reduceAdd, Nat.reduceLeDiff, Nat.reduceSub, Nat.reduceMul, Nat.reduceEqDiff, Int.reduceEq, Int.reduceLT, Int.reduceLE, Int.reduceAdd, Int.reduceSub, Int.reduceNeg, Int.reduceGT, Int.reduceGE, Int.reduceNe, ne_eq, not_false_eq_true, hone, LTok.cells]
              generalize oneA (c :: r) (decide ((acc.getLastD .zero).text = [126])) = z at hp
            all_goals
              obtain ⟨e, k, p, t, m⟩ := z
              simp only [go_sem, Nat.reduceAdd, Nat.reduceLeDiff, Nat.reduceSub, Nat.reduceMul, Nat.reduceEqDiff, Int.reduceEq, Int.reduceLT, Int.reduceLE, Int.reduceAdd, Int.reduceSub, Int.reduceNeg, Int.reduceGT, Int.reduceGE, Int.reduceNe, ne_eq, not_false_eq_true, LTok.cells_mk]
              cases he : decide (e = 0)
              · simp only [go_sem, Nat.reduceAdd, Nat.reduceLeDiff, Nat.reduceSub, Nat.reduceMul, Nat.reduceEqDiff, Int.reduceEq, Int.reduceLT, Int.reduceLE, Int.reduceAdd, Int.reduceSub, Int.reduceNeg, Int.reduceGT, Int.reduceGE, Int.reduceNe, ne_eq, not_false_eq_true, LTok.enc, LTok.cells_mk]
                have := scan_end acc x s0 s a e pre.length
                rw [he] at this
                exact this
              · obtain ⟨hp1, hp2, hp3⟩ := hp (of_decide_eq_true he)
                simp only at hp1 hp2 hp3
                obtain ⟨x', s', ha, a'⟩ := tokAcc (b := ⟨k, pre.length, t, m⟩) a (by omega)
                have ht1 := hp1.length_le
                have ht0 : 0 < t.length := List.length_pos_iff.2 hp2
                simp only [List.length_cons] at ht1
                simp only [LTok.enc, LTok.cells_mk] at ha
                simp only [go_sem, Nat.reduceAdd, Nat.reduceLeDiff, Nat.reduceSub, Nat.reduceMul, Nat.reduceEqDiff, Int.reduceEq, Int.reduceLT, Int.reduceLE, Int.reduceAdd, Int.reduceSub, Int.reduceNeg, Int.reduceGT, Int.reduceGE, Int.reduceNe, ne_eq, not_false_eq_true, LTok.enc, LTok.cells_mk, ha]
                rw [wrap64 (by omega) (by omega)]
                exact ih ((c :: r).drop t.length) (pre ++ (c :: r).take t.length) _ x' s' (pre.length + t.length) (by simp; omega) (by rw [List.append_assoc, List.take_append_drop, h]) (by simp; omega) a' (by simp; omega)
          · have hge' : decide ((acc.length : Int) ≥ 16384) = true := by simp at hge ⊢; omega
            simp only [go_sem, Nat.reduceAdd, Nat.reduceLeDiff, Nat.reduceSub, Nat.reduceMul, Nat.reduceEqDiff, Int.reduceEq, Int.reduceLT, Int.reduceLE, Int.reduceAdd, Int.reduceSub, Int.reduceNeg, Int.reduceGT, Int.reduceGE, Int.reduceNe, ne_eq, not_false_eq_true, hge']
            exact scan_end acc x s0 s a 4 pre.length
        · simp only [go_sem, Nat.reduceAdd, Nat.reduceLeDiff, Nat.reduceSub, Nat.reduceMul, Nat.reduceEqDiff, Int.reduceEq, Int.reduceLT, Int.reduceLE, Int.reduceAdd, Int.reduceSub, Int.reduceNeg, Int.reduceGT, Int.reduceGE, Int.reduceNe, ne_eq, not_false_eq_true]
          cases hcom : lxCom 0 (c :: r) with
          | none =>
            simp only [go_sem, Nat.reduceAdd, Nat.reduceLeDiff, Nat.reduceSub, Nat.reduceMul, Nat.reduceEqDiff, Int.reduceEq, Int.reduceLT, Int.reduceLE, Int.reduceAdd, Int.reduceSub, Int.reduceNeg, Int.reduceGT, Int.reduceGE, Int.reduceNe, ne_eq, not_false_eq_true]
            exact scan_end acc x s0 s a 12 pre.length
          | some k =>
            have hk := com_le _ _ _ hcom
            simp only [List.length_cons] at hk
            have hneg : decide (((pre.length + k : Nat) : Int) < 0) = false := by simp; omega
            simp only [go_sem, Nat.reduceAdd, Nat.reduceLeDiff, Nat.reduceSub, Nat.reduceMul, Nat.reduceEqDiff, Int.reduceEq, Int.reduceLT, Int.reduceLE, Int.reduceAdd, Int.reduceSub, Int.reduceNeg, Int.reduceGT, Int.reduceGE, Int.reduceNe, ne_eq, not_false_eq_true, hneg]
            exact ih ((c :: r).drop k) (pre ++ (c :: r).take k) acc x s (pre.length + k) (by simp; omega) (by rw [List.append_assoc, List.take_append_drop, h]) (by simp; omega) a (by simp; omega)
      · simp only [go_sem, Nat.reduceAdd, Nat.reduceLeDiff, Nat.reduceSub, Nat.reduceMul, Nat.reduceEqDiff, Int.reduceEq, Int.reduceLT, Int.reduceLE, Int.reduceAdd, Int.reduceSub, Int.reduceNeg, Int.reduceGT, Int.reduceGE, Int.reduceNe, ne_eq, not_false_eq_true]
        rw [wrap64 (by omega) (by omega)]
        exact ih r (pre ++ [c]) acc x s (pre.length + 1) (by omega) (by simp [h]) (by simp) a (by simp; omega)
theorem lex_Scan_spec (L : Str) (hl : L.length < 2^60) (s : St) : ∃ nl s', cw (.f F_lex_Scan) [.str L] s = some (.ret (.val (.tup [encS nl ((lxScan L).1.map LTok.enc), badEnc (lxScan L).2.1 (lxScan L).2.2])), s') ∧ Grew s s' := by
  rw [lex_Scan_eq]
  unfold lxScan
  simp only [go_sem, Nat.reduceAdd, Nat.reduceLeDiff, Nat.reduceSub, Nat.reduceMul, Nat.reduceEqDiff, Int.reduceEq, Int.reduceLT, Int.reduceLE, Int.reduceAdd, Int.reduceSub, Int.reduceNeg, Int.reduceGT, Int.reduceGE, Int.reduceNe, ne_eq, not_false_eq_true]
  cases hb : decide ((L.length : Int) > 65536)
  · simp only [go_sem, Nat.reduceAdd, Nat.reduceLeDiff, Nat.reduceSub, Nat.reduceMul, Nat.reduceEqDiff, Int.reduceEq, Int.reduceLT, Int.reduceLE, Int.reduceAdd, Int.reduceSub, Int.reduceNeg, Int.reduceGT, Int.reduceGE, Int.reduceNe, ne_eq, not_false_eq_true]
    exact scan_loop L (by simp at hb; omega) s (L.length + 1) L [] [] (.val .nils) s 0 (by omega) rfl rfl (AccR.nil _ _) (by simp)
  · simp only [go_sem, Nat.reduceAdd, Nat.reduceLeDiff, Nat.reduceSub, Nat.reduceMul, Nat.reduceEqDiff, Int.reduceEq, Int.reduceLT, Int.reduceLE, Int.reduceAdd, Int.reduceSub, Int.reduceNeg, Int.reduceGT, Int.reduceGE, Int.reduceNe, ne_eq, not_false_eq_true]
    exact ⟨true, s, rfl, .refl s⟩
end Go.Proofs.YtadhckhgemongaaDoor

namespace Go.Am
open Go
theorem scanF_few : ∀ (n i : Nat) (s : Str) (acc : List LTok), acc.length ≤ 16384 → (scanF n i s acc).1.length ≤ 16384
  | 0, _, _, _, h => h
  | _ + 1, _, [], _, h => h
  | n + 1, i, c :: r, acc, h => by
    unfold scanF
    cases blankC c
    · simp only [cond_false]
      cases lxOpens (c :: r)
      · simp only [cond_false]
        cases hg : decide (acc.length ≥ 16384)
        · simp only [cond_false]
          cases decide ((oneA (c :: r) (tildeL acc)).1 = 0)
          · exact Nat.zero_le _
          · simp only [cond_true]
            exact scanF_few n _ _ _ (by simp at hg; simp; omega)
        · exact Nat.zero_le _
      · simp only [cond_true]
        cases lxCom 0 (c :: r) with
        | none => exact Nat.zero_le _
        | some k => exact scanF_few n _ _ _ h
    · exact scanF_few n _ _ _ h
theorem scan_few (s : Str) : (lxScan s).1.length ≤ 16384 := by
  unfold lxScan
  cases decide ((s.length : Int) > 65536)
  · exact scanF_few _ _ _ _ (Nat.zero_le _)
  · exact Nat.zero_le _
end Go.Am

namespace Go.Proofs.YtadhckhgemongaaDoor
open Go Go.Am
set_option linter.unusedVariables false
set_option maxRecDepth 4000
def bareT (t : LTok) : Int × Str × Int := (t.kind, t.text, t.num)
theorem same_loop (A B : List LTok) (x y : Slot) (hx : x.list? = some (A.map LTok.enc)) (hy : y.list? = some (B.map LTok.enc)) (hl : A.length < 2^30) (hb : B.length = A.length) : ∀ (suf pre sufB preB : List LTok) (s : St) (i : Nat), pre ++ suf = A → preB ++ sufB = B → i = pre.length → preB.length = pre.length → suf.map bareT = sufB.map bareT →
    ref04_Same_l0 x y (.val (.int .i64 (A.length : Int))) (.val (.int .i64 (i : Int))) s = some (.ret (.val (.bool true)), s) := by
  intro suf
  induction suf with
  | nil =>
    intro pre sufB preB s i h h' hi hp he
    rw [List.append_nil] at h
    subst h hi
    rw [ref04_Same_l0_eq]
    simp only [go_sem, Nat.reduceAdd, Nat.reduceLeDiff, Nat.reduceSub, Nat.reduceMul, Nat.reduceEqDiff, Int.reduceEq, Int.reduceLT, Int.reduceLE, Int.reduceAdd, Int.reduceSub, Int.reduceNeg, Int.reduceGT, Int.reduceGE, Int.reduceNe, ne_eq, not_false_eq_true, Int.lt_irrefl]
  | cons c suf ih =>
    intro pre sufB preB s i h h' hi hp he
    subst hi
    cases sufB with
    | nil => simp at he
    | cons d sufB =>
      simp only [List.map_cons, List.cons.injEq] at he
      obtain ⟨he1, he2⟩ := he
      obtain ⟨f1, f2, f3⟩ := step_facts (f := LTok.enc) (x := x) (sz := 4) hx h (by omega) (LTok.cells_len _) (by decide)
      obtain ⟨g1, g2, g3⟩ := step_facts (f := LTok.enc) (x := y) (sz := 4) hy h' (by omega) (LTok.cells_len _) (by decide)
      rw [hp] at g2
      have := ih (pre ++ [c]) sufB (preB ++ [d]) s (pre.length + 1) (by simp [h]) (by simp [h']) (by simp) (by simp [hp]) he2
      obtain ⟨c1, c2, c3, c4⟩ := c
      obtain ⟨d1, d2, d3, d4⟩ := d
      simp only [bareT, Prod.mk.injEq] at he1
      obtain ⟨rfl, rfl, rfl⟩ := he1
      rw [ref04_Same_l0_eq]
      simp only [LTok.enc, LTok.cells_mk] at f2 g2
      simp only [go_sem, Nat.reduceAdd, Nat.reduceLeDiff, Nat.reduceSub, Nat.reduceMul, Nat.reduceEqDiff, Int.reduceEq, Int.reduceLT, Int.reduceLE, Int.reduceAdd, Int.reduceSub, Int.reduceNeg, Int.reduceGT, Int.reduceGE, Int.reduceNe, ne_eq, not_false_eq_true, f1, f2, f3, g2]
      exact this
theorem ref04_Same_spec (A B : List LTok) (a b : AV) (ha : (Slot.val a).list? = some (A.map LTok.enc)) (hb : (Slot.val b).list? = some (B.map LTok.enc)) (hl : A.length < 2^30) (he : A.map bareT = B.map bareT) (s : St) : cw (.f F_ref04_Same) [a, b] s = some (.ret (.val (.bool true)), s) := by
  have hlen : A.length = B.length := by simpa using congrArg List.length he
  rw [ref04_Same_eq]
  simp only [go_sem, Nat.reduceAdd, Nat.reduceLeDiff, Nat.reduceSub, Nat.reduceMul, Nat.reduceEqDiff, Int.reduceEq, Int.reduceLT, Int.reduceLE, Int.reduceAdd, Int.reduceSub, Int.reduceNeg, Int.reduceGT, Int.reduceGE, Int.reduceNe, ne_eq, not_false_eq_true, ha, hb]
  rw [← hlen]
  simp only [go_sem, Nat.reduceAdd, Nat.reduceLeDiff, Nat.reduceSub, Nat.reduceMul, Nat.reduceEqDiff, Int.reduceEq, Int.reduceLT, Int.reduceLE, Int.reduceAdd, Int.reduceSub, Int.reduceNeg, Int.reduceGT, Int.reduceGE, Int.reduceNe, ne_eq, not_false_eq_true]
  exact same_loop A B _ _ ha hb hl hlen.symm A [] B [] s 0 rfl rfl rfl rfl he
theorem places_loop (A : List LTok) (x y : Slot) (hx : x.list? = some (A.map LTok.enc)) (hy : y.list? = some (A.map LTok.enc)) (hl : A.length < 2^30) : ∀ (suf pre : List LTok) (s : St) (i : Nat), pre ++ suf = A → i = pre.length →
    law04_places_l0 x y (.val (.int .i64 (A.length : Int))) (.val (.int .i64 (i : Int))) s = some (.ret (.val (.bool true)), s) := by
  intro suf
  induction suf with
  | nil =>
    intro pre s i h hi
    rw [List.append_nil] at h
    subst h hi
    rw [law04_places_l0_eq]
    simp only [go_sem, Nat.reduceAdd, Nat.reduceLeDiff, Nat.reduceSub, Nat.reduceMul, Nat.reduceEqDiff, Int.reduceEq, Int.reduceLT, Int.reduceLE, Int.reduceAdd, Int.reduceSub, Int.reduceNeg, Int.reduceGT, Int.reduceGE, Int.reduceNe, ne_eq, not_false_eq_true, Int.lt_irrefl]
  | cons c suf ih =>
    intro pre s i h hi
    subst hi
    obtain ⟨f1, f2, f3⟩ := step_facts (f := LTok.enc) (x := x) (sz := 4) hx h (by omega) (LTok.cells_len _) (by decide)
    obtain ⟨g1, g2, g3⟩ := step_facts (f := LTok.enc) (x := y) (sz := 4) hy h (by omega) (LTok.cells_len _) (by decide)
    have := ih (pre ++ [c]) s (pre.length + 1) (by simp [h]) (by simp)
    obtain ⟨c1, c2, c3, c4⟩ := c
    rw [law04_places_l0_eq]
    simp only [LTok.enc, LTok.cells_mk] at f2 g2
    simp only [go_sem, Nat.reduceAdd, Nat.reduceLeDiff, Nat.reduceSub, Nat.reduceMul, Nat.reduceEqDiff, Int.reduceEq, Int.reduceLT, Int.reduceLE, Int.reduceAdd, Int.reduceSub, Int.reduceNeg, Int.reduceGT, Int.reduceGE, Int.reduceNe, ne_eq, not_false_eq_true, f1, f2, f3, g2]
    exact this
theorem law04_places_spec (A : List LTok) (a b : AV) (ha : (Slot.val a).list? = some (A.map LTok.enc)) (hb : (Slot.val b).list? = some (A.map LTok.enc)) (hl : A.length < 2^30) (s : St) : cw (.f F_law04_places) [a, b] s = some (.ret (.val (.bool true)), s) := by
  rw [law04_places_eq]
  simp only [go_sem, Nat.reduceAdd, Nat.reduceLeDiff, Nat.reduceSub, Nat.reduceMul, Nat.reduceEqDiff, Int.reduceEq, Int.reduceLT, Int.reduceLE, Int.reduceAdd, Int.reduceSub, Int.reduceNeg, Int.reduceGT, Int.reduceGE, Int.reduceNe, ne_eq, not_false_eq_true, ref04_Same_spec A A a b ha hb hl rfl, ha]
  exact places_loop A _ _ ha hb hl A [] s 0 rfl rfl
theorem clone_spec (l : List Str) (h0 : l ≠ []) (hl : l.length < 2^20) (s : St) : ∃ x s', cw (.f F_slices_Clone_Sstring_string) [.sl (l.map .str)] s = some (.ret x, s') ∧ x.list? = some (l.map .str) ∧ Grew s s' := by
  rw [slices_Clone_Sstring_string_eq]
  have hn : binS (C.ti T_S_string) .eql (.val (.sl (l.map .str))) (.val .nils) = some (.val (.bool false)) := by simp only [binS, av_val, eqS, T_S_string_k]; rfl
  obtain ⟨x, s', h1, h2⟩ := AccR.appendF (f := AV.str) (t := C.ti T_string) (A := []) (B := l) (y := .val (.sl (l.map .str))) (AccR.full T_string s []) rfl (fun a => by rw [T_string_size]; rfl) (by rw [T_string_size]; decide) (by simp; omega) (by rw [T_string_bytes]; decide)
  simp only [go_sem, Nat.reduceAdd, Nat.reduceLeDiff, Nat.reduceSub, Nat.reduceMul, Nat.reduceEqDiff, Int.reduceEq, Int.reduceLT, Int.reduceLE, Int.reduceAdd, Int.reduceSub, Int.reduceNeg, Int.reduceGT, Int.reduceGE, Int.reduceNe, ne_eq, not_false_eq_true, hn, h1]
  exact ⟨x, s', rfl, by simpa using h2.list?, h2.grew⟩
theorem lex_Words_spec (s : St) : ∃ x s', cw (.f F_lex_Words) [] s = some (.ret x, s') ∧ x.list? = some (lwords.map .str) ∧ Grew s s' := by
  rw [lex_Words_eq, words_slice]
  obtain ⟨x, s', h1, h2, h3⟩ := clone_spec lwords (by decide) (by decide) s
  simp only [go_sem, Nat.reduceAdd, Nat.reduceLeDiff, Nat.reduceSub, Nat.reduceMul, Nat.reduceEqDiff, Int.reduceEq, Int.reduceLT, Int.reduceLE, Int.reduceAdd, Int.reduceSub, Int.reduceNeg, Int.reduceGT, Int.reduceGE, Int.reduceNe, ne_eq, not_false_eq_true, h1]
  exact ⟨x, s', rfl, h2, h3⟩
theorem lex_Signs_spec (s : St) : ∃ x s', cw (.f F_lex_Signs) [] s = some (.ret x, s') ∧ x.list? = some (lsigns.map .str) ∧ Grew s s' := by
  rw [lex_Signs_eq, signs_slice]
  obtain ⟨x, s', h1, h2, h3⟩ := clone_spec lsigns (by decide) (by decide) s
  simp only [go_sem, Nat.reduceAdd, Nat.reduceLeDiff, Nat.reduceSub, Nat.reduceMul, Nat.reduceEqDiff, Int.reduceEq, Int.reduceLT, Int.reduceLE, Int.reduceAdd, Int.reduceSub, Int.reduceNeg, Int.reduceGT, Int.reduceGE, Int.reduceNe, ne_eq, not_false_eq_true, h1]
  exact ⟨x, s', rfl, h2, h3⟩
theorem beqi (x y : Int) : (x == y) = decide (x = y) := by rw [Bool.eq_iff_iff]; simp
theorem bad_eql (a b c d : Int) (x y : Str) : binS (C.ti T_Bad) .eql (.val (.agg [.int .i64 a, .int .i64 b, .str x])) (.val (.agg [.int .i64 c, .int .i64 d, .str y])) = some (.val (.bool (decide (a = c) && (decide (b = d) && decide (x = y))))) := by
  simp only [binS, av_val, eqS, T_Bad_k, T_Bad_flat, List.isEmpty_cons, cond_false, eqAll, TK.has, decide_true, Bool.and_self, cond_true, AV.eqb, if_true, beqd, beqi]
  generalize decide (a = c) = p; generalize decide (b = d) = q; generalize decide (x = y) = r
  cases p <;> cases q <;> cases r <;> rfl
theorem bad_neq (a b c d : Int) (x y : Str) : binS (C.ti T_Bad) .neq (.val (.agg [.int .i64 a, .int .i64 b, .str x])) (.val (.agg [.int .i64 c, .int .i64 d, .str y])) = some (.val (.bool (!(decide (a = c) && (decide (b = d) && decide (x = y)))))) := by
  simp only [binS, av_val, eqS, T_Bad_k, T_Bad_flat, List.isEmpty_cons, cond_false, eqAll, TK.has, decide_true, Bool.and_self, cond_true, AV.eqb, if_true, beqd, beqi]
  generalize decide (a = c) = p; generalize decide (b = d) = q; generalize decide (x = y) = r
  cases p <;> cases q <;> cases r <;> rfl
def know1 : Str := [118, 97, 108, 32, 120, 39, 61, 126, 49, 50, 40, 42, 97, 40, 42, 98, 42, 41, 42, 41]
theorem know1_scan : lxScan know1 = ([⟨5, 0, [118, 97, 108], 0⟩, ⟨2, 4, [120, 39], 0⟩, ⟨6, 6, [61], 0⟩, ⟨6, 7, [126], 0⟩, ⟨1, 8, [49, 50], 12⟩], 0, 0) := by decide +kernel
theorem know2_scan : lxScan [97, 32, 40, 42, 32, 98] = ([], 12, 2) := by decide +kernel
theorem law04_knows_spec (s : St) : ∃ s', cw (.f F_law04_knows) [] s = some (.ret (.val (.bool true)), s') ∧ Grew s s' := by
  rw [law04_knows_eq]
  obtain ⟨n1, s1, h1, g1⟩ := lex_Scan_spec know1 (by decide) s
  rw [know1_scan] at h1
  obtain ⟨n2, s2, h2, g2⟩ := lex_Scan_spec [97, 32, 40, 42, 32, 98] (by decide) s1
  rw [know2_scan] at h2
  obtain ⟨x3, s3, h3, l3, g3⟩ := lex_Words_spec s2
  obtain ⟨x4, s4, h4, l4, g4⟩ := lex_Signs_spec s3
  unfold know1 at h1
  simp only [badEnc, LTok.enc, LTok.cells_mk, List.map_cons, List.map_nil, encS_cons] at h1 h2
  have e5 : decide (((5 : Nat) : Int) = 5) = true := rfl
  have e24 : decide (((lwords.length : Nat) : Int) = 24) = true := by decide
  have e19 : decide (((lsigns.length : Nat) : Int) = 19) = true := by decide
  have ix1 : ixS 4 (.val (.sl [.agg [.int .i64 5, .int .i64 0, .str [118, 97, 108], .int .i64 0], .agg [.int .i64 2, .int .i64 4, .str [120, 39], .int .i64 0], .agg [.int .i64 6, .int .i64 6, .str [61], .int .i64 0], .agg [.int .i64 6, .int .i64 7, .str [126], .int .i64 0], .agg [.int .i64 1, .int .i64 8, .str [49, 50], .int .i64 12]])) (.val (.int .i64 1)) = some (.val (.cp [.int .i64 2, .int .i64 4, .str [120, 39], .int .i64 0])) := rfl
  have ix4 : ixS 4 (.val (.sl [.agg [.int .i64 5, .int .i64 0, .str [118, 97, 108], .int .i64 0], .agg [.int .i64 2, .int .i64 4, .str [120, 39], .int .i64 0], .agg [.int .i64 6, .int .i64 6, .str [61], .int .i64 0], .agg [.int .i64 6, .int .i64 7, .str [126], .int .i64 0], .agg [.int .i64 1, .int .i64 8, .str [49, 50], .int .i64 12]])) (.val (.int .i64 4)) = some (.val (.cp [.int .i64 1, .int .i64 8, .str [49, 50], .int .i64 12])) := rfl
  simp only [go_sem, Nat.reduceAdd, Nat.reduceLeDiff, Nat.reduceSub, Nat.reduceMul, Nat.reduceEqDiff, Int.reduceEq, Int.reduceLT, Int.reduceLE, Int.reduceAdd, Int.reduceSub, Int.reduceNeg, Int.reduceGT, Int.reduceGE, Int.reduceNe, ne_eq, not_false_eq_true, h1, h2, h3, h4, l3, l4, bad_eql, ix1, ix4, e5, e24, e19]
  exact ⟨s4, rfl, ((g1.trans g2).trans g3).trans g4⟩
end Go.Proofs.YtadhckhgemongaaDoor

namespace Go.Am
open Go
theorem takeWhile_take {α : Type} (p : α → Bool) : ∀ (s : List α) (j : Nat), (s.takeWhile p).length ≤ j → (s.take j).takeWhile p = s.takeWhile p
  | [], _, _ => by simp
  | a :: s, j, h => by
    rw [List.takeWhile_cons] at h ⊢
    cases ha : p a
    · rw [ha] at h
      cases j with
      | zero => rfl
      | succ j => rw [List.take_succ_cons, List.takeWhile_cons, ha]; rfl
    · rw [ha] at h
      simp only [if_true, List.length_cons] at h ⊢
      cases j with
      | zero => omega
      | succ j =>
        rw [List.take_succ_cons, List.takeWhile_cons, ha]
        simp only [if_true]
        rw [takeWhile_take p s j (by omega)]
theorem com_take : ∀ (s : Str) (d : Int) (k j : Nat), lxCom d s = some k → k ≤ j → lxCom d (s.take j) = some k
  | [], _, _, _, h, _ => by simp [lxCom] at h
  | [_], _, _, _, h, _ => by simp [lxCom] at h
  | a :: b :: r, d, k, j, h, hj => by
    have hk := com_le _ _ _ h
    obtain ⟨j, rfl⟩ : ∃ i, j = i + 2 := ⟨j - 2, by omega⟩
    rw [List.take_succ_cons, List.take_succ_cons, com_cons]
    rw [com_cons] at h
    cases h1 : decide (a = 40) && decide (b = 42)
    · rw [h1] at h
      simp only [cond_false] at h ⊢
      cases h2 : decide (a = 42) && decide (b = 41)
      · rw [h2] at h
        simp only [cond_false, Option.map_eq_some_iff] at h ⊢
        obtain ⟨i, hi, rfl⟩ := h
        exact ⟨i, by rw [← List.take_succ_cons]; exact com_take (b :: r) d i (j + 1) hi (by omega), rfl⟩
      · rw [h2] at h
        simp only [cond_true] at h ⊢
        cases h3 : decide (d - 1 = 0)
        · rw [h3] at h
          simp only [cond_false, Option.map_eq_some_iff] at h ⊢
          obtain ⟨i, hi, rfl⟩ := h
          exact ⟨i, com_take r (d - 1) i j hi (by omega), rfl⟩
        · rw [h3] at h
          exact h
    · rw [h1] at h
      simp only [cond_true, Option.map_eq_some_iff] at h ⊢
      obtain ⟨i, hi, rfl⟩ := h
      exact ⟨i, com_take r (d + 1) i j hi (by omega), rfl⟩
theorem opens_take (s : Str) (j : Nat) (h : 2 ≤ j ∨ lxOpens s = false) : lxOpens (s.take j) = lxOpens s := by
  match s, j, h with
  | [], j, _ => simp
  | [a], 0, _ => rfl
  | [a], j + 1, _ => simp
  | a :: b :: r, 0, h =>
    rcases h with h | h
    · omega
    · rw [h]; rfl
  | a :: b :: r, 1, h =>
    rcases h with h | h
    · omega
    · rw [h]; rfl
  | a :: b :: r, j + 2, _ => rfl
theorem signA_take (s : Str) (j : Nat) (h : (signA s).length ≤ j) (h0 : signA s ≠ []) : signA (s.take j) = signA s := by
  have hj : 1 ≤ j := by have := List.length_pos_iff.2 h0; omega
  match s, j, hj with
  | [], j, _ => simp
  | [a], j + 1, _ => simp
  | a :: b :: r, 1, _ =>
    unfold signA at h h0 ⊢
    cases h2 : hasL lsigns [a, b]
    · simp [h2]
    · simp [h2] at h
  | a :: b :: r, j + 2, _ => simp [signA]
theorem restA_take (s : Str) (j : Nat) (h : (restA s).1 = 0) (hj : (restA s).2.text.length ≤ j) : restA (s.take j) = restA s := by
  have h0 : signA s ≠ [] := by
    intro e
    unfold restA at h
    rw [e] at h
    simp at h
  have : restA s = (0, ⟨6, 0, signA s, 0⟩) := by unfold restA; rw [decide_eq_false h0]; rfl
  rw [this] at hj
  unfold restA
  rw [signA_take s j hj h0]
theorem oneA_take (s : Str) (td : Bool) (j : Nat) (h0 : s ≠ []) (h : (oneA s td).1 = 0) (hj : (oneA s td).2.text.length ≤ j) : oneA (s.take j) td = oneA s td := by
  have hp := oneA_pre s td h0 h
  have hj1 : 1 ≤ j := by have := List.length_pos_iff.2 hp.2.1; omega
  obtain ⟨c, r, rfl⟩ := List.exists_cons_of_ne_nil h0
  obtain ⟨j, rfl⟩ : ∃ i, j = i + 1 := ⟨j - 1, by omega⟩
  have hh : ((c :: r).take (j + 1)).headD 0 = c := rfl
  have hd : ((c :: r).take (j + 1)).drop 1 = r.take j := rfl
  have ht1 : ((c :: r).take (j + 1)).take 1 = [c] := rfl
  unfold oneA at h hj ⊢
  rw [hh, hd, ht1]
  rw [show (c :: r).headD 0 = c from rfl] at h hj ⊢
  rw [show (c :: r).drop 1 = r from rfl, show (c :: r).take 1 = [c] from rfl] at h hj ⊢
  cases h1 : digC c
  · rw [h1] at h hj
    simp only [cond_false] at h hj ⊢
    cases h2 : firC c
    · rw [h2] at h hj
      simp only [cond_false] at h hj ⊢
      cases h3 : decide (c = 39) && decide (1 < (c :: r).length) && firC (r.headD 0)
      · rw [h3] at h hj
        simp only [cond_false] at h hj ⊢
        have h4 : (decide (c = 39) && decide (1 < ((c :: r).take (j + 1)).length) && firC ((r.take j).headD 0)) = false := by
          cases r with
          | nil => simp
          | cons b r =>
            cases j with
            | zero => simp
            | succ j => simpa using h3
        rw [h4, cond_false]
        exact restA_take _ _ h hj
      · rw [h3] at h hj
        simp only [cond_true] at h hj ⊢
        simp only [Bool.and_eq_true, decide_eq_true_eq] at h3
        cases r with
        | nil => simp at h3
        | cons b r =>
          have hb : firC b = true := h3.2
          have ham : amoC b = true := by unfold amoC amoB; unfold firC at hb; rw [hb]; rfl
          have htx : (tyvA ([c] ++ (b :: r).takeWhile amoC)).2.text = [c] ++ (b :: r).takeWhile amoC := by
            unfold tyvA at h ⊢
            cases he : decide (((([c] ++ (b :: r).takeWhile amoC).length : Nat) : Int) - 1 > 32)
            · rfl
            · rw [he] at h; simp at h
          rw [htx] at hj
          simp only [List.length_append, List.length_cons, List.length_nil] at hj
          have hw : ((b :: r).take j).takeWhile amoC = (b :: r).takeWhile amoC := takeWhile_take _ _ _ (by omega)
          have hj2 : 1 ≤ j := by
            have : 1 ≤ ((b :: r).takeWhile amoC).length := by rw [List.takeWhile_cons, ham]; simp
            omega
          obtain ⟨j, rfl⟩ : ∃ i, j = i + 1 := ⟨j - 1, by omega⟩
          have h5 : (decide (c = 39) && decide (1 < ((c :: b :: r).take (j + 1 + 1)).length) && firC (((b :: r).take (j + 1)).headD 0)) = true := by
            simp only [Bool.and_eq_true, decide_eq_true_eq]
            exact ⟨⟨h3.1.1, by simp⟩, hb⟩
          rw [h5, cond_true, hw]
    · rw [h2] at h hj
      simp only [cond_true] at h hj ⊢
      cases h3 : decide ((c :: r).takeWhile amoC = [95])
      · rw [h3] at h hj
        simp only [cond_false] at h hj ⊢
        cases h4 : decide ((((c :: r).takeWhile amoC).length : Int) > 32)
        · rw [h4] at hj
          simp only [cond_false] at hj
          rw [takeWhile_take _ _ _ hj, h3, h4]
          rfl
        · rw [h4] at h; simp at h
      · rw [h3] at h hj
        simp only [cond_true] at h hj ⊢
        have e := of_decide_eq_true h3
        rw [takeWhile_take _ _ _ (by rw [e]; simp), h3, cond_true]
        exact restA_take _ _ h hj
  · rw [h1] at h hj
    simp only [cond_true] at h hj ⊢
    cases h3 : (numA ((c :: r).takeWhile digC) td).2
    · rw [h3] at h; simp at h
    · rw [h3] at hj
      simp only [cond_true] at hj
      rw [takeWhile_take _ _ _ hj, h3]
theorem scanF_cut : ∀ (n i : Nat) (s : Str) (acc l : List LTok), s.length < n → scanF n i s acc = (l, 0, 0) → l ≠ acc → ∃ p : Nat, (l.getLastD .zero).pos = (p : Int) ∧ i ≤ p ∧ p - i ≤ s.length ∧ 0 < l.length ∧ ∀ m, p - i < m → scanF m i (s.take (p - i)) acc = (l.dropLast, 0, 0)
  | 0, _, _, _, _, h, _, _ => by omega
  | _ + 1, _, [], _, _, _, h, hne => by
    simp only [scanF, Prod.mk.injEq] at h
    exact absurd h.1.symm hne
  | n + 1, i, c :: r, acc, l, hn, h, hne => by
    simp only [List.length_cons] at hn
    rw [scanF] at h
    cases hb : blankC c
    · rw [hb] at h
      simp only [cond_false] at h
      cases ho : lxOpens (c :: r)
      · rw [ho] at h
        simp only [cond_false] at h
        cases hg : decide (acc.length ≥ 16384)
        · rw [hg] at h
          simp only [cond_false] at h
          cases he : decide ((oneA (c :: r) (tildeL acc)).1 = 0)
          · rw [he] at h
            simp only [cond_false, Prod.mk.injEq] at h
            exact absurd h.2.1 (of_decide_eq_false he)
          · rw [he] at h
            simp only [cond_true] at h
            have he' := of_decide_eq_true he
            obtain ⟨hp1, hp2, hp3⟩ := oneA_pre (c :: r) (tildeL acc) (by simp) he'
            have htake := oneA_take (c :: r) (tildeL acc)
            generalize hz : oneA (c :: r) (tildeL acc) = z at h he' hp1 hp2 hp3 htake
            have hl0 : 0 < z.2.text.length := List.length_pos_iff.2 hp2
            have hl1 := hp1.length_le
            simp only [List.length_cons] at hl1
            by_cases hlast : l = acc ++ [{ z.2 with pos := (i : Int) }]
            · subst hlast
              refine ⟨i, by simp, Nat.le_refl _, by omega, by simp, fun m hm => ?_⟩
              obtain ⟨m, rfl⟩ : ∃ q, m = q + 1 := ⟨m - 1, by omega⟩
              rw [Nat.sub_self, List.take_zero, List.dropLast_concat]
              rfl
            · obtain ⟨p, q1, q2, q3, q4, q5⟩ := scanF_cut n _ _ _ l (by simp only [List.length_drop, List.length_cons]; omega) h hlast
              simp only [List.length_drop, List.length_cons] at q3
              refine ⟨p, q1, by omega, by simp only [List.length_cons]; omega, q4, fun m hm => ?_⟩
              obtain ⟨m, rfl⟩ : ∃ q, m = q + 1 := ⟨m - 1, by omega⟩
              have e : p - i = z.2.text.length + (p - (i + z.2.text.length)) := by omega
              obtain ⟨j, hj⟩ : ∃ j, p - i = j + 1 := ⟨p - i - 1, by omega⟩
              have ht := htake (p - i) (by simp) he' (by omega)
              have q6 := q5 m (by omega)
              have hd : ((c :: r).drop z.2.text.length).take (p - (i + z.2.text.length)) = ((c :: r).take (p - i)).drop z.2.text.length := by
                rw [List.drop_take]; congr 1; omega
              rw [hd] at q6
              have hop : lxOpens ((c :: r).take (p - i)) = false := by rw [opens_take _ _ (.inr ho)]; exact ho
              rw [hj, List.take_succ_cons] at ht q6 hop ⊢
              rw [scanF, hb, hop, hg, ht]
              simp only [cond_false]
              rw [decide_eq_true he', cond_true]
              exact q6
        · rw [hg] at h
          simp at h
      · rw [ho] at h
        simp only [cond_true] at h
        cases hc : lxCom 0 (c :: r) with
        | none => rw [hc] at h; simp at h
        | some k =>
          rw [hc] at h
          have hk := com_le _ _ _ hc
          simp only [List.length_cons] at hk
          obtain ⟨p, q1, q2, q3, q4, q5⟩ := scanF_cut n _ _ _ l (by simp only [List.length_drop, List.length_cons]; omega) h hne
          simp only [List.length_drop, List.length_cons] at q3
          refine ⟨p, q1, by omega, by simp only [List.length_cons]; omega, q4, fun m hm => ?_⟩
          obtain ⟨m, rfl⟩ : ∃ q, m = q + 1 := ⟨m - 1, by omega⟩
          have hct := com_take (c :: r) 0 k (p - i) hc (by omega)
          have hop : lxOpens ((c :: r).take (p - i)) = true := by rw [opens_take _ _ (.inl (by omega))]; exact ho
          have q6 := q5 m (by omega)
          have hd : ((c :: r).drop k).take (p - (i + k)) = ((c :: r).take (p - i)).drop k := by
            rw [List.drop_take]; congr 1; omega
          rw [hd] at q6
          obtain ⟨j, hj⟩ : ∃ j, p - i = j + 1 := ⟨p - i - 1, by omega⟩
          rw [hj, List.take_succ_cons] at hct hop q6 ⊢
          rw [scanF, hb, hop, hct]
          exact q6
    · rw [hb] at h
      simp only [cond_true] at h
      obtain ⟨p, q1, q2, q3, q4, q5⟩ := scanF_cut n _ _ _ l (by omega) h hne
      refine ⟨p, q1, by omega, by simp only [List.length_cons]; omega, q4, fun m hm => ?_⟩
      obtain ⟨m, rfl⟩ : ∃ q, m = q + 1 := ⟨m - 1, by omega⟩
      have e : p - i = (p - (i + 1)) + 1 := by omega
      rw [e, List.take_succ_cons, scanF, hb, cond_true]
      exact q5 m (by omega)
theorem scan_cut (s : Str) (l : List LTok) (h : lxScan s = (l, 0, 0)) (hl : s.length ≤ 65536) (h0 : l ≠ []) : ∃ p : Nat, (l.getLastD .zero).pos = (p : Int) ∧ p ≤ s.length ∧ lxScan (s.take p) = (l.dropLast, 0, 0) := by
  unfold lxScan at h
  rw [decide_eq_false (by omega), cond_false] at h
  obtain ⟨p, q1, q2, q3, q4, q5⟩ := scanF_cut _ 0 s [] l (by omega) h h0
  refine ⟨p, q1, by omega, ?_⟩
  unfold lxScan
  have hlen : (s.take p).length = p := by rw [List.length_take]; omega
  rw [hlen, decide_eq_false (by omega), cond_false]
  exact q5 (p + 1) (by omega)
end Go.Am

namespace Go.Proofs.YtadhckhgemongaaDoor
open Go Go.Am
set_option linter.unusedVariables false
set_option maxRecDepth 4000
theorem toks_cut (l : List LTok) (nl : Bool) (h0 : l ≠ []) : sliceS (C.ti T_S_Tok) 4 (.val (encS nl (l.map LTok.enc))) none (some (.val (.int .i64 ((l.length : Int) - 1)))) none = some (.val (.sl (l.dropLast.map LTok.enc))) := by
  have hne : l.map LTok.enc ≠ [] := by simpa using h0
  have hp := List.length_pos_iff.2 h0
  rw [encS_any hne nl true, encS_true hne]
  have hall : ((l.map LTok.enc).all (fun v => v.cells.length == 4) && Nat.blt 0 4) = true := by
    simp only [Bool.and_eq_true, List.all_eq_true, List.mem_map]
    exact ⟨by rintro _ ⟨t, _, rfl⟩; simp only [beq_iff_eq]; exact LTok.cells_len t, rfl⟩
  have e : (l.length : Int) - 1 = ((l.length - 1 : Nat) : Int) := by omega
  rw [e]
  have hb := bound_some (i := l.length - 1) (n := (l.map LTok.enc).length) (most := (l.map LTok.enc).length) (by simp)
  have hb2 : bound none 0 (l.length - 1) = some 0 := rfl
  simp only [sliceS, T_S_Tok_k, list?_sl, hall, cond_true, hb, hb2, List.drop_zero]
  rw [← List.map_take, List.dropLast_eq_take]
theorem law04_LexCut_spec (L : Str) (hl : L.length < 2^60) (s : St) : ∃ s', cw (.f F_law04_LexCut) [.str L] s = some (.ret (.val (.bool true)), s') ∧ Grew s s' := by
  rw [law04_LexCut_eq]
  simp only [go_sem, Nat.reduceAdd, Nat.reduceLeDiff, Nat.reduceSub, Nat.reduceMul, Nat.reduceEqDiff, Int.reduceEq, Int.reduceLT, Int.reduceLE, Int.reduceAdd, Int.reduceSub, Int.reduceNeg, Int.reduceGT, Int.reduceGE, Int.reduceNe, ne_eq, not_false_eq_true]
  cases hb : decide ((L.length : Int) > 3000)
  · simp only [go_sem, Nat.reduceAdd, Nat.reduceLeDiff, Nat.reduceSub, Nat.reduceMul, Nat.reduceEqDiff, Int.reduceEq, Int.reduceLT, Int.reduceLE, Int.reduceAdd, Int.reduceSub, Int.reduceNeg, Int.reduceGT, Int.reduceGE, Int.reduceNe, ne_eq, not_false_eq_true]
    obtain ⟨n1, s1, h1, g1⟩ := lex_Scan_spec L hl s
    obtain ⟨s3, h3, g3⟩ := law04_knows_spec s1
    have hcut := scan_cut L
    generalize hz : lxScan L = z at h1 hcut
    obtain ⟨l, e, p⟩ := z
    simp only [badEnc] at h1
    simp only [go_sem, Nat.reduceAdd, Nat.reduceLeDiff, Nat.reduceSub, Nat.reduceMul, Nat.reduceEqDiff, Int.reduceEq, Int.reduceLT, Int.reduceLE, Int.reduceAdd, Int.reduceSub, Int.reduceNeg, Int.reduceGT, Int.reduceGE, Int.reduceNe, ne_eq, not_false_eq_true, h1, bad_neq, h3, list?_encS]
    cases hbad : decide (e = 0) && decide (p = 0)
    · simp only [go_sem, Nat.reduceAdd, Nat.reduceLeDiff, Nat.reduceSub, Nat.reduceMul, Nat.reduceEqDiff, Int.reduceEq, Int.reduceLT, Int.reduceLE, Int.reduceAdd, Int.reduceSub, Int.reduceNeg, Int.reduceGT, Int.reduceGE, Int.reduceNe, ne_eq, not_false_eq_true]
      exact ⟨s3, rfl, g1.trans g3⟩
    · simp only [go_sem, Nat.reduceAdd, Nat.reduceLeDiff, Nat.reduceSub, Nat.reduceMul, Nat.reduceEqDiff, Int.reduceEq, Int.reduceLT, Int.reduceLE, Int.reduceAdd, Int.reduceSub, Int.reduceNeg, Int.reduceGT, Int.reduceGE, Int.reduceNe, ne_eq, not_false_eq_true]
      simp only [Bool.and_eq_true, decide_eq_true_eq] at hbad
      obtain ⟨rfl, rfl⟩ := hbad
      cases hn : decide ((l.length : Int) = 0)
      · have hne : l ≠ [] := by
          rintro rfl
          simp at hn
        have hpos := List.length_pos_iff.2 hne
        obtain ⟨q, q1, q2, q3⟩ := hcut l rfl (by simp at hb; omega) hne
        have hfew := scan_few L
        rw [hz] at hfew
        simp only at hfew
        obtain ⟨n2, s2, h2, g2⟩ := lex_Scan_spec (L.take q) (by simp; omega) s1
        rw [q3] at h2
        obtain ⟨s4, h4, g4⟩ := law04_knows_spec s2
        have hlast := last_facts (acc := l) (x := .val (encS n1 (l.map LTok.enc))) (list?_encS _ _) hpos
        have hc : (l.getLastD .zero).cells = [.int .i64 (l.getLastD .zero).kind, .int .i64 (q : Int), .str (l.getLastD .zero).text, .int .i64 (l.getLastD .zero).num] := by
          rw [← q1]; rfl
        have hp := law04_places_spec l.dropLast (encS n2 (l.dropLast.map LTok.enc)) (.sl (l.dropLast.map LTok.enc)) (list?_encS _ _) rfl (by simp; omega) s2
        have hw : IntKind.i64.wrap ((l.length : Int) - 1) = (l.length : Int) - 1 := wrap64 (by omega) (by omega)
        have hneg : decide ((q : Int) < 0) = false := by simp
        have hgt : decide ((q : Int) > (L.length : Int)) = false := by simp; omega
        have hts := toks_cut l n1 hne
        simp only [badEnc] at h2
        simp only [go_sem, Nat.reduceAdd, Nat.reduceLeDiff, Nat.reduceSub, Nat.reduceMul, Nat.reduceEqDiff, Int.reduceEq, Int.reduceLT, Int.reduceLE, Int.reduceAdd, Int.reduceSub, Int.reduceNeg, Int.reduceGT, Int.reduceGE, Int.reduceNe, ne_eq, not_false_eq_true, hw, hlast, hc, hneg, hgt, sliceS_to T_string_k q2, h2, bad_eql, hts, hp, h4]
        exact ⟨s4, rfl, (g1.trans g2).trans g4⟩
      · simp only [go_sem, Nat.reduceAdd, Nat.reduceLeDiff, Nat.reduceSub, Nat.reduceMul, Nat.reduceEqDiff, Int.reduceEq, Int.reduceLT, Int.reduceLE, Int.reduceAdd, Int.reduceSub, Int.reduceNeg, Int.reduceGT, Int.reduceGE, Int.reduceNe, ne_eq, not_false_eq_true]
        exact ⟨s3, rfl, g1.trans g3⟩
  · simp only [go_sem, Nat.reduceAdd, Nat.reduceLeDiff, Nat.reduceSub, Nat.reduceMul, Nat.reduceEqDiff, Int.reduceEq, Int.reduceLT, Int.reduceLE, Int.reduceAdd, Int.reduceSub, Int.reduceNeg, Int.reduceGT, Int.reduceGE, Int.reduceNe, ne_eq, not_false_eq_true]
    obtain ⟨s3, h3, g3⟩ := law04_knows_spec s
    rw [h3]
    simp only [go_sem, Nat.reduceAdd, Nat.reduceLeDiff, Nat.reduceSub, Nat.reduceMul, Nat.reduceEqDiff, Int.reduceEq, Int.reduceLT, Int.reduceLE, Int.reduceAdd, Int.reduceSub, Int.reduceNeg, Int.reduceGT, Int.reduceGE, Int.reduceNe, ne_eq, not_false_eq_true]
    exact ⟨s3, rfl, g3⟩
theorem law04_LexCut_row (x : Str) (g : x.length < 2^24) (hb : 0 ≤ 1048576) : Ret (cw (.f F_law04_LexCut) [.str x] st0) st0 (.bool true) := law04_LexCut_spec x (by omega) st0
end Go.Proofs.YtadhckhgemongaaDoor
