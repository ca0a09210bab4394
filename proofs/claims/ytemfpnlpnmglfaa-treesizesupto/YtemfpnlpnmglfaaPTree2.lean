/- The two ways of the small tests are one. -/
import Derived.Test.YtemfpnlpnmglfaaPTree
import Derived.Lib.IndexMore
set_option linter.unusedVariables false
set_option linter.unusedSimpArgs false
namespace Go.Am
open Go

theorem contains_nil (sub : List UInt8) : Go.Lib.contains [] sub = sub.isEmpty := by
  unfold Go.Lib.contains Go.Lib.index
  cases sub.isEmpty <;> rfl
theorem contains_cons (c : UInt8) (s sub : List UInt8) : Go.Lib.contains (c :: s) sub = (sub.isPrefixOf (c :: s) || Go.Lib.contains s sub) := by
  have h := Go.Lib.index_ge s sub
  unfold Go.Lib.contains
  rw [Go.Lib.index]
  cases sub.isPrefixOf (c :: s) with
  | true => rfl
  | false =>
    simp only [Bool.false_eq_true, if_false, Bool.false_or]
    by_cases h1 : Go.Lib.index s sub = -1
    · rw [h1]; rfl
    · have h2 : (Go.Lib.index s sub == -1) = false := by simpa using h1
      rw [h2]
      simp only [Bool.false_eq_true, if_false]
      congr 1
      rw [eq_iff_iff]
      omega

theorem skip_word : ∀ (w T x : List UInt8), (∀ c ∈ w, c ≠ 32) → Go.Lib.contains (w ++ T) (32 :: x) = Go.Lib.contains T (32 :: x)
  | [], _, _, _ => rfl
  | c :: w, T, x, h => by
    have hc : ((32 : UInt8) == c) = false := by have := h c (by simp); rw [beq_eq_false_iff_ne]; exact fun e => this e.symm
    rw [List.cons_append, contains_cons, List.isPrefixOf, hc, Bool.false_and, Bool.false_or]
    exact skip_word w T x fun d hd => h d (List.mem_cons_of_mem _ hd)

theorem prefix_word : ∀ (l w T : List UInt8), (∀ c ∈ l, c ≠ 32) → (∀ c ∈ w, c ≠ 32) → (l ++ [32]).isPrefixOf (w ++ 32 :: T) = decide (l = w)
  | [], [], T, _, _ => by simp [List.isPrefixOf]
  | [], c :: w, T, _, h => by
    have hc : ((32 : UInt8) == c) = false := by have := h c (by simp); rw [beq_eq_false_iff_ne]; exact fun e => this e.symm
    simp [List.isPrefixOf, hc]
  | a :: l, [], T, h, _ => by
    have hc : (a == (32 : UInt8)) = false := by have := h a (by simp); rw [beq_eq_false_iff_ne]; exact this
    simp [List.isPrefixOf, hc]
  | a :: l, c :: w, T, h, g => by
    have ih := prefix_word l w T (fun d hd => h d (List.mem_cons_of_mem _ hd)) (fun d hd => g d (List.mem_cons_of_mem _ hd))
    rw [List.cons_append, List.cons_append, List.isPrefixOf, ih]
    by_cases hac : a = c
    · subst hac; simp
    · have : (a == c) = false := by rw [beq_eq_false_iff_ne]; exact hac
      simp [this, hac]

theorem word_in (l : Str) (hl : ∀ c ∈ l, c ≠ 32) : ∀ ws : List Str, (∀ w ∈ ws, ∀ c ∈ w, c ≠ 32) → Go.Lib.contains (32 :: (ws.flatMap fun w => w ++ [32])) (32 :: (l ++ [32])) = ws.any fun w => decide (l = w)
  | [], _ => by
    rw [List.flatMap_nil, contains_cons, contains_nil]
    cases l <;> simp [List.isPrefixOf]
  | w :: ws, h => by
    have hw := h w (by simp)
    have e : (w :: ws).flatMap (fun w => w ++ [32]) = w ++ 32 :: (ws.flatMap fun w => w ++ [32]) := by simp
    rw [e, contains_cons, List.isPrefixOf, beq_self_eq_true, Bool.true_and, prefix_word l w _ hl hw, skip_word w _ _ hw, word_in l hl ws fun v hv => h v (List.mem_cons_of_mem _ hv), List.any_cons]

def wordsAll : List Str := wordsR ++ [[116, 114, 117, 101], [102, 97, 108, 115, 101], [95]]
theorem words_eq : wordsS = 32 :: (wordsAll.flatMap fun w => w ++ [32]) := by decide +kernel
theorem words_plain : ∀ w ∈ wordsAll, ∀ c ∈ w, c ≠ 32 := by decide +kernel

theorem rest_eq (n : Int) : restR n = !unrestB n := by
  simp only [restR, unrestB, smallB, greatB]
  by_cases h1 : n ≥ 97 <;> by_cases h2 : n ≤ 122 <;> by_cases h3 : n = 95 <;> by_cases h4 : n ≥ 65 <;> by_cases h5 : n ≤ 90 <;> by_cases h6 : n < 48 <;> by_cases h7 : n > 57 <;> by_cases h8 : n = 39 <;> simp [h1, h2, h3, h4, h5, h6, h7, h8] <;> omega

theorem shaped_eq (l : Str) (cap : Bool) : shapedR l cap = (!decide (l = []) && letterR (headB l) cap && runB l) := by
  have e : ((l.drop 1).all fun c => restR c.toNat) = restAll (l.drop 1) := by
    unfold restAll
    congr 1
    funext c
    exact rest_eq _
  unfold shapedR runB
  rw [e]
  have e1 : decide ((l.length : Int) < 1) = decide (l = []) := by cases l <;> simp; omega
  have e2 : decide ((l.length : Int) > 32) = !decide (l.length ≤ 32) := by
    by_cases h : l.length ≤ 32
    · rw [decide_eq_true h, decide_eq_false (by omega)]; rfl
    · rw [decide_eq_false h, decide_eq_true (by omega)]; rfl
  rw [e1, e2]
  cases decide (l = []) <;> cases decide (l.length ≤ 32) <;> cases letterR (headB l) cap <;> cases restAll (l.drop 1) <;> rfl

theorem cap_eq (l : Str) : capR l = capB l := shaped_eq l true
theorem con_eq (l : Str) : conR l = conB l := by unfold conR conB; rw [cap_eq]

theorem no_blank (l : Str) (h : shapedR l false = true) : ∀ c ∈ l, c ≠ 32 := by
  rw [shaped_eq] at h
  simp only [Bool.and_eq_true] at h
  obtain ⟨⟨h0, h1⟩, h2⟩ := h
  cases l with
  | nil => intro c hc; cases hc
  | cons a l =>
    intro c hc e
    subst e
    rcases List.mem_cons.1 hc with rfl | hc
    · change letterR 32 false = true at h1
      revert h1; decide
    · simp only [runB, Bool.and_eq_true, restAll, List.drop_one, List.tail_cons, List.all_eq_true] at h2
      have := h2.1 32 hc
      revert this; decide

theorem low_eq (l : Str) : lowR l = lowB l := by
  unfold lowR
  have e : lowB l = (shapedR l false && !Go.Lib.contains wordsS (32 :: (l ++ [32]))) := by rw [shaped_eq]; rfl
  rw [e]
  cases hs : shapedR l false with
  | false => rfl
  | true =>
    rw [words_eq, word_in l (no_blank l hs) wordsAll words_plain]
    unfold wordsAll amongR
    rw [List.any_append]
    have e3 : (wordsR.any fun w => decide (w = l)) = wordsR.any fun w => decide (l = w) := by congr 1; funext w; congr 1; rw [eq_iff_iff]; exact eq_comm
    rw [e3]
    simp only [List.any_cons, List.any_nil]
    cases (wordsR.any fun w => decide (l = w)) <;> cases decide (l = [95]) <;> cases decide (l = [116, 114, 117, 101]) <;> cases decide (l = [102, 97, 108, 115, 101]) <;> rfl

theorem low_int : lowB [105, 110, 116] = true := by decide +kernel
theorem low_bool : lowB [98, 111, 111, 108] = true := by decide +kernel
theorem low_unit : lowB [117, 110, 105, 116] = true := by decide +kernel
theorem low_exn : lowB [101, 120, 110] = true := by decide +kernel

end Go.Am
