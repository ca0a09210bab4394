/- The document's way for the names that a pattern binds. -/
import Derived.Test.YtemfpnlpnmglfaaSTree7
set_option linter.unusedVariables false
set_option linter.unusedSimpArgs false
namespace Go.Proofs.Ytemfpnlpnmglfaa
open Go Go.Am
set_option maxRecDepth 4000

theorem ref05_Vars_loop (t : Pat) (hl : t.kids.length < 2^40) (s0 : St) : ∀ (suf pre : List Pat) (A : List Str) (x : Slot) (s : St) (i : Nat), AccR T_string s0 s x (A.map .str) → pre ++ suf = t.kids → i = pre.length → (∀ t ∈ suf, ∀ s, RetA (cw (.f F_ref05_Vars) [t.enc] s) T_string s ((varsPat t).map .str)) → A.length + Pat.sizes suf < 2^30 →
    RetA (ref05_Vars_l0 (t.cells.map .val) x (.val (.int .i64 i)) s) T_string s0 ((A ++ varsPats suf).map .str)
  | [], pre, A, x, s, i, hA, h, hi, H, hb => by
    subst hi
    rw [ref05_Vars_l0_eq]; simp only [go_sem, Nat.reduceAdd, Nat.reduceLeDiff, Nat.reduceSub, Nat.reduceMul, Nat.reduceEqDiff, Int.reduceEq, Int.reduceLT, Int.reduceLE, Int.reduceAdd, Int.reduceSub, Int.reduceNeg, Int.reduceGT, Int.reduceGE, Int.reduceNe, ne_eq, not_false_eq_true, Pat.cells_eq, end_facts (by simpa using h), varsPats, List.append_nil]
    exact RetA.mk hA
  | u :: suf, pre, A, x, s, i, hA, h, hi, H, hb => by
    subst hi
    obtain ⟨f1, f2, f3⟩ := step_facts (x := .val (encS t.kb (t.kids.map Pat.enc))) (list?_encS _ _) h (by omega) (Pat.cells_len u) (by decide)
    obtain ⟨y, s1, e1, g1⟩ := H u (List.mem_cons_self) s
    have hlen := varsPat_len u
    simp only [Pat.sizes] at hb
    obtain ⟨x', s2, e2, g2⟩ := AccR.appendF (t := C.ti T_string) (f := AV.str) (hA.move g1.grew) g1.list? (fun _ => rfl) (by decide) (by omega) (by decide +kernel)
    have := ref05_Vars_loop t hl s0 suf (pre ++ [u]) (A ++ varsPat u) x' s2 (pre.length + 1) g2 (by simpa using h) (by simp) (fun w hw => H w (List.mem_cons_of_mem _ hw)) (by rw [List.length_append]; omega)
    rw [ref05_Vars_l0_eq]; rw [Pat.cells_eq] at this ⊢; simp only [go_sem, Nat.reduceAdd, Nat.reduceLeDiff, Nat.reduceSub, Nat.reduceMul, Nat.reduceEqDiff, Int.reduceEq, Int.reduceLT, Int.reduceLE, Int.reduceAdd, Int.reduceSub, Int.reduceNeg, Int.reduceGT, Int.reduceGE, Int.reduceNe, ne_eq, not_false_eq_true, f1, f2, f3, e1, e2] at this ⊢
    simp only [varsPats, List.map_append, List.append_assoc] at this ⊢
    exact this

theorem ref05_Vars_spec : ∀ (m : Nat) (t : Pat) (s : St), t.size ≤ m → t.size < 2^28 → RetA (cw (.f F_ref05_Vars) [t.enc] s) T_string s ((varsPat t).map .str)
  | 0, .mk _ _ _ _ _ _, _, h, _ => by simp only [Pat.size] at h; omega
  | m + 1, .mk k a nm n l nl, s, h, h' => by
    simp only [Pat.size] at h h'
    have hl := Pat.len_sizes l
    have hj : ∀ (A : List Str) (x : Slot) (s1 : St), AccR T_string s s1 x (A.map .str) → A.length ≤ 1 → RetA (ref05_Vars_j0 ((Pat.mk k a nm n l nl).cells.map .val) x s1) T_string s ((A ++ varsPats l).map .str) := fun A x s1 hA h1 => by
      rw [ref05_Vars_j0_eq]
      exact ref05_Vars_loop (.mk k a nm n l nl) (by simp only [Pat.kids]; omega) s l [] A x s1 0 hA rfl rfl (fun u hu s => by have := Pat.mem_sizes hu; exact ref05_Vars_spec m u s (by omega) (by omega)) (by omega)
    have hvs : varsPat (.mk k a nm n l nl) = (bif decide (k = 2) || decide (k = 6) then [nm] else []) ++ varsPats l := by simp only [varsPat]; rfl
    rw [ref05_Vars_eq, hvs]
    cases hv : decide (k = 2) || decide (k = 6) with
    | false =>
      have h1 := hj [] (.val .nils) s (AccR.nil _ s) (by simp)
      rw [cond_false]
      simp only [go_sem, Nat.reduceAdd, Nat.reduceLeDiff, Nat.reduceSub, Nat.reduceMul, Nat.reduceEqDiff, Int.reduceEq, Int.reduceLT, Int.reduceLE, Int.reduceAdd, Int.reduceSub, Int.reduceNeg, Int.reduceGT, Int.reduceGE, Int.reduceNe, ne_eq, not_false_eq_true, Pat.enc, hv] at h1 ⊢
      exact h1
    | true =>
      obtain ⟨x', s1, e1, g1⟩ := AccR.appendF (t := C.ti T_string) (f := AV.str) (A := []) (B := [nm]) (y := .full [.str nm]) (AccR.nil T_string s) rfl (fun _ => rfl) (by decide) (by simp) (by decide +kernel)
      have h1 := hj [nm] x' s1 g1 (by simp)
      rw [cond_true]
      simp only [go_sem, Nat.reduceAdd, Nat.reduceLeDiff, Nat.reduceSub, Nat.reduceMul, Nat.reduceEqDiff, Int.reduceEq, Int.reduceLT, Int.reduceLE, Int.reduceAdd, Int.reduceSub, Int.reduceNeg, Int.reduceGT, Int.reduceGE, Int.reduceNe, ne_eq, not_false_eq_true, Pat.enc, hv, e1] at h1 ⊢
      exact h1

theorem ref05_SameTexts_loop (L M : List Str) (x y : Slot) (hx : x.list? = some (L.map .str)) (hy : y.list? = some (M.map .str)) (hl : L.length < 2^40) (he : M.length = L.length) : ∀ (suf pre : List Str) (s : St) (i : Nat), pre ++ suf = L → pre ++ suf = M → i = pre.length →
    ref05_SameTexts_l0 x y (.val (.int .i64 i)) s = some (.ret (.val (.bool true)), s)
  | [], pre, s, i, h, g, hi => by
    subst hi
    rw [ref05_SameTexts_l0_eq]; simp only [go_sem, Nat.reduceAdd, Nat.reduceLeDiff, Nat.reduceSub, Nat.reduceMul, Nat.reduceEqDiff, Int.reduceEq, Int.reduceLT, Int.reduceLE, Int.reduceAdd, Int.reduceSub, Int.reduceNeg, Int.reduceGT, Int.reduceGE, Int.reduceNe, ne_eq, not_false_eq_true, hx, end_facts (by simpa using h)]
  | u :: suf, pre, s, i, h, g, hi => by
    subst hi
    obtain ⟨f1, f2, f3⟩ := step_facts (f := AV.str) (sz := 1) hx h (by omega) (by rfl) (by decide)
    obtain ⟨-, g2, -⟩ := step_facts (f := AV.str) (sz := 1) hy g (by omega) (by rfl) (by decide)
    have := ref05_SameTexts_loop L M x y hx hy hl he suf (pre ++ [u]) s (pre.length + 1) (by simpa using h) (by simpa using g) (by simp)
    rw [ref05_SameTexts_l0_eq]; simp only [go_sem, Nat.reduceAdd, Nat.reduceLeDiff, Nat.reduceSub, Nat.reduceMul, Nat.reduceEqDiff, Int.reduceEq, Int.reduceLT, Int.reduceLE, Int.reduceAdd, Int.reduceSub, Int.reduceNeg, Int.reduceGT, Int.reduceGE, Int.reduceNe, ne_eq, not_false_eq_true, hx, f1, f2, f3, g2, this, decide_eq_true (Eq.refl u)]

theorem ref05_SameTexts_spec (L : List Str) (v w : AV) (hv : (Slot.val v).list? = some (L.map .str)) (hw : (Slot.val w).list? = some (L.map .str)) (hl : L.length < 2^40) (s : St) : cw (.f F_ref05_SameTexts) [v, w] s = some (.ret (.val (.bool true)), s) := by
  have h1 := ref05_SameTexts_loop L L (.val v) (.val w) hv hw hl rfl L [] s 0 rfl rfl rfl
  rw [show ((0 : Nat) : Int) = 0 from rfl] at h1
  rw [ref05_SameTexts_eq]; simp only [go_sem, Nat.reduceAdd, Nat.reduceLeDiff, Nat.reduceSub, Nat.reduceMul, Nat.reduceEqDiff, Int.reduceEq, Int.reduceLT, Int.reduceLE, Int.reduceAdd, Int.reduceSub, Int.reduceNeg, Int.reduceGT, Int.reduceGE, Int.reduceNe, ne_eq, not_false_eq_true, hv, hw, List.length_map, decide_eq_true (Eq.refl (L.length : Int)), h1]

end Go.Proofs.Ytemfpnlpnmglfaa
