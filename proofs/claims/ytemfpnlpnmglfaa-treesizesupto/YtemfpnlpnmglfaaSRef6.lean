/- The document's answer for the tree layer: what is wrong first. -/
import Derived.Test.YtemfpnlpnmglfaaSRef3
import Derived.Test.YtemfpnlpnmglfaaSRef4
import Derived.Test.YtemfpnlpnmglfaaSRef5
set_option linter.unusedVariables false
set_option linter.unusedSimpArgs false
namespace Go.Proofs.Ytemfpnlpnmglfaa
open Go Go.Am
set_option maxRecDepth 4000

theorem ref05_count_loop (L : List TNode) (z : Slot) (hz : z.list? = some (L.map TNode.enc)) (hl : L.length < 2^40) : ∀ (suf pre : List TNode) (n : Nat) (s : St) (i : Nat), pre ++ suf = L → i = pre.length → n + suf.length < 2^40 →
    ref05_count_l0 z (.val (.int .i64 n)) (.val (.int .i64 i)) s = some (.ret (.val (.int .i64 (n + countN suf : Nat))), s)
  | [], pre, n, s, i, h, hi, hb => by
    subst hi
    rw [ref05_count_l0_eq]; simp only [go_sem, Nat.reduceAdd, Nat.reduceLeDiff, Nat.reduceSub, Nat.reduceMul, Nat.reduceEqDiff, Int.reduceEq, Int.reduceLT, Int.reduceLE, Int.reduceAdd, Int.reduceSub, Int.reduceNeg, Int.reduceGT, Int.reduceGE, Int.reduceNe, ne_eq, not_false_eq_true, hz, end_facts (by simpa using h)]; rfl
  | u :: suf, pre, n, s, i, h, hi, hb => by
    subst hi
    obtain ⟨f1, f2, f3⟩ := step_facts hz h (by omega) (TNode.cells_len u) (by decide)
    have hw : IntKind.i64.wrap ((n : Int) + 1) = ((n + 1 : Nat) : Int) := by rw [wrap64 (by omega) (by omega)]; rfl
    simp only [List.length_cons] at hb
    rw [TNode.enc, cells_agg, TNode.cells_3] at f2
    have h1 := ref05_count_loop L z hz hl suf (pre ++ [u]) n s (pre.length + 1) (by simpa using h) (by simp) (by omega)
    have h2 := ref05_count_loop L z hz hl suf (pre ++ [u]) (n + 1) s (pre.length + 1) (by simpa using h) (by simp) (by omega)
    rw [ref05_count_l0_eq]; simp only [go_sem, Nat.reduceAdd, Nat.reduceLeDiff, Nat.reduceSub, Nat.reduceMul, Nat.reduceEqDiff, Int.reduceEq, Int.reduceLT, Int.reduceLE, Int.reduceAdd, Int.reduceSub, Int.reduceNeg, Int.reduceGT, Int.reduceGE, Int.reduceNe, ne_eq, not_false_eq_true, hz, f1, f2, f3, TNode.what_isNode, hw, h1, h2]
    cases hu : u.isNode
    · have e : countN (u :: suf) = countN suf := by simp [countN, hu]
      simp only [go_sem, Nat.reduceAdd, Nat.reduceLeDiff, Nat.reduceSub, Nat.reduceMul, Nat.reduceEqDiff, Int.reduceEq, Int.reduceLT, Int.reduceLE, Int.reduceAdd, Int.reduceSub, Int.reduceNeg, Int.reduceGT, Int.reduceGE, Int.reduceNe, ne_eq, not_false_eq_true, e]
    · have e : countN (u :: suf) = countN suf + 1 := by simp [countN, hu]
      simp only [go_sem, Nat.reduceAdd, Nat.reduceLeDiff, Nat.reduceSub, Nat.reduceMul, Nat.reduceEqDiff, Int.reduceEq, Int.reduceLT, Int.reduceLE, Int.reduceAdd, Int.reduceSub, Int.reduceNeg, Int.reduceGT, Int.reduceGE, Int.reduceNe, ne_eq, not_false_eq_true, e]
      rw [show n + 1 + countN suf = n + (countN suf + 1) by omega]

theorem ref05_count_spec (l : List TNode) (v : AV) (hv : (Slot.val v).list? = some (l.map TNode.enc)) (s : St) (h : l.length < 2^39) : cw (.f F_ref05_count) [v] s = some (.ret (.val (.int .i64 (countN l))), s) := by
  rw [ref05_count_eq]
  have := ref05_count_loop l (.val v) hv (by omega) l [] 0 s 0 rfl rfl (by omega)
  rw [Nat.zero_add] at this
  exact this

theorem ref05_first_loop (L : List TNode) (z : Slot) (hz : z.list? = some (L.map TNode.enc)) (hl : L.length < 2^40) : ∀ (suf pre : List TNode) (s : St) (i : Nat), pre ++ suf = L → i = pre.length → (∀ n ∈ suf, n.ok) →
    ref05_first_l0 z [.val (.int .i64 0), .val (.int .i64 0), .val (.str [])] (.val (.int .i64 i)) s = some (.ret (.val (firstBad suf).enc), s)
  | [], pre, s, i, h, hi, H => by
    subst hi
    rw [ref05_first_l0_eq]; simp only [go_sem, Nat.reduceAdd, Nat.reduceLeDiff, Nat.reduceSub, Nat.reduceMul, Nat.reduceEqDiff, Int.reduceEq, Int.reduceLT, Int.reduceLE, Int.reduceAdd, Int.reduceSub, Int.reduceNeg, Int.reduceGT, Int.reduceGE, Int.reduceNe, ne_eq, not_false_eq_true, hz, end_facts (by simpa using h)]; rfl
  | u :: suf, pre, s, i, h, hi, H => by
    subst hi
    obtain ⟨f1, f2, f3⟩ := step_facts hz h (by omega) (TNode.cells_len u) (by decide)
    obtain ⟨nm, e1, e2⟩ := ref05_wrong_spec u s (H u (List.mem_cons_self))
    have ih := ref05_first_loop L z hz hl suf (pre ++ [u]) s (pre.length + 1) (by simpa using h) (by simp) (fun w hw => H w (List.mem_cons_of_mem _ hw))
    have f2' := f2
    rw [TNode.enc, cells_agg, TNode.cells_3] at f2'
    have hj : ∀ (e : Int) (nm : Str), ref05_first_j0 z [.val (.int .i64 0), .val (.int .i64 0), .val (.str [])] (.val (.int .i64 pre.length)) (.val (.int .i64 e)) (.val (.str nm)) s = some (.ret (.val (TBad.mk e u.at_ nm).enc), s) := fun e nm => by
      rw [ref05_first_j0_eq]; simp only [go_sem, Nat.reduceAdd, Nat.reduceLeDiff, Nat.reduceSub, Nat.reduceMul, Nat.reduceEqDiff, Int.reduceEq, Int.reduceLT, Int.reduceLE, Int.reduceAdd, Int.reduceSub, Int.reduceNeg, Int.reduceGT, Int.reduceGE, Int.reduceNe, ne_eq, not_false_eq_true, f2']; rfl
    rw [ref05_first_l0_eq]; simp only [go_sem, Nat.reduceAdd, Nat.reduceLeDiff, Nat.reduceSub, Nat.reduceMul, Nat.reduceEqDiff, Int.reduceEq, Int.reduceLT, Int.reduceLE, Int.reduceAdd, Int.reduceSub, Int.reduceNeg, Int.reduceGT, Int.reduceGE, Int.reduceNe, ne_eq, not_false_eq_true, hz, f1, f2, f3, e1, ih, hj]
    by_cases h0 : u.wrong.1 = 0
    · simp only [go_sem, Nat.reduceAdd, Nat.reduceLeDiff, Nat.reduceSub, Nat.reduceMul, Nat.reduceEqDiff, Int.reduceEq, Int.reduceLT, Int.reduceLE, Int.reduceAdd, Int.reduceSub, Int.reduceNeg, Int.reduceGT, Int.reduceGE, Int.reduceNe, ne_eq, not_false_eq_true, h0, firstBad, TNode.bad, mkBad, TBad.zero]
    · have hk : decide (u.bad.kind = 0) = false := by simp [TNode.bad, mkBad, h0]
      by_cases h8 : u.wrong.1 = 8
      · have := e2 h8
        subst this
        simp only [go_sem, Nat.reduceAdd, Nat.reduceLeDiff, Nat.reduceSub, Nat.reduceMul, Nat.reduceEqDiff, Int.reduceEq, Int.reduceLT, Int.reduceLE, Int.reduceAdd, Int.reduceSub, Int.reduceNeg, Int.reduceGT, Int.reduceGE, Int.reduceNe, ne_eq, not_false_eq_true, h8, firstBad, hk]
        simp only [TNode.bad, h8]; rfl
      · simp only [go_sem, Nat.reduceAdd, Nat.reduceLeDiff, Nat.reduceSub, Nat.reduceMul, Nat.reduceEqDiff, Int.reduceEq, Int.reduceLT, Int.reduceLE, Int.reduceAdd, Int.reduceSub, Int.reduceNeg, Int.reduceGT, Int.reduceGE, Int.reduceNe, ne_eq, not_false_eq_true, decide_eq_false h0, decide_eq_false h8, firstBad, hk]
        simp only [TNode.bad, mkBad, decide_eq_false h0, decide_eq_false h8]; rfl

theorem ref05_first_spec (l : List TNode) (v : AV) (hv : (Slot.val v).list? = some (l.map TNode.enc)) (deep : Int) (s : St) (h : l.length < 2^39) (H : ∀ n ∈ l, n.ok) : cw (.f F_ref05_first) [v, .int .i64 deep] s = some (.ret (.val (rightN l deep).enc), s) := by
  have h1 := ref05_count_spec l v hv s h
  have h2 := ref05_first_loop l (.val v) hv (by omega) l [] s 0 rfl rfl H
  rw [show ((0 : Nat) : Int) = 0 from rfl] at h2
  rw [ref05_first_eq]; simp only [go_sem, Nat.reduceAdd, Nat.reduceLeDiff, Nat.reduceSub, Nat.reduceMul, Nat.reduceEqDiff, Int.reduceEq, Int.reduceLT, Int.reduceLE, Int.reduceAdd, Int.reduceSub, Int.reduceNeg, Int.reduceGT, Int.reduceGE, Int.reduceNe, ne_eq, not_false_eq_true, h1, h2]
  have e : decide ((countN l : Int) > 8192) = decide (countN l > 8192) := by simp only [gt_iff_lt]; congr 1; rw [eq_iff_iff]; omega
  rw [e]
  unfold rightN
  cases decide (countN l > 8192) <;> cases decide (deep > 100) <;> rfl

theorem ref05_Right_spec (l : List Dec) (nl : Bool) (s : St) (h : Dec.sizes l < 2^26) (H : ∀ n ∈ nodesDecs false l, n.ok) : Ret (cw (.f F_ref05_Right) [encS nl (l.map Dec.enc)] s) s (rightN (nodesDecs false l) (deepDecs l 0)).enc := by
  obtain ⟨x, s1, e1, g1⟩ := ref05_Of_spec l nl s h
  have hlen := nodesDecs_len false l
  obtain ⟨b, hb⟩ := g1.av
  have h2 := ref05_Deep_spec l nl s1 (by omega)
  have h3 := ref05_first_spec (nodesDecs false l) (encS b ((nodesDecs false l).map TNode.enc)) (by simp only [go_sem, Nat.reduceAdd, Nat.reduceLeDiff, Nat.reduceSub, Nat.reduceMul, Nat.reduceEqDiff, Int.reduceEq, Int.reduceLT, Int.reduceLE, Int.reduceAdd, Int.reduceSub, Int.reduceNeg, Int.reduceGT, Int.reduceGE, Int.reduceNe, ne_eq, not_false_eq_true]) (deepDecs l 0) s1 (by omega) H
  rw [ref05_Right_eq]; simp only [go_sem, Nat.reduceAdd, Nat.reduceLeDiff, Nat.reduceSub, Nat.reduceMul, Nat.reduceEqDiff, Int.reduceEq, Int.reduceLT, Int.reduceLE, Int.reduceAdd, Int.reduceSub, Int.reduceNeg, Int.reduceGT, Int.reduceGE, Int.reduceNe, ne_eq, not_false_eq_true, e1, h2, avs_cons hb, h3]
  exact Ret.mk g1.grew

theorem ref05_RightExp_spec (t : Exp) (s : St) (h : t.size < 2^26) (H : ∀ n ∈ nodesExp t, n.ok) : Ret (cw (.f F_ref05_RightExp) [t.enc] s) s (rightN (nodesExp t) (deepExp t)).enc := by
  obtain ⟨x, s1, e1, g1⟩ := ref05_OfExp_spec t s h
  have hlen := nodesExp_len t
  obtain ⟨b, hb⟩ := g1.av
  have h2 := ref05_DeepExp_spec t s1 (by omega)
  have h3 := ref05_first_spec (nodesExp t) (encS b ((nodesExp t).map TNode.enc)) (by simp only [go_sem, Nat.reduceAdd, Nat.reduceLeDiff, Nat.reduceSub, Nat.reduceMul, Nat.reduceEqDiff, Int.reduceEq, Int.reduceLT, Int.reduceLE, Int.reduceAdd, Int.reduceSub, Int.reduceNeg, Int.reduceGT, Int.reduceGE, Int.reduceNe, ne_eq, not_false_eq_true]) (deepExp t) s1 (by omega) H
  rw [ref05_RightExp_eq]; simp only [go_sem, Nat.reduceAdd, Nat.reduceLeDiff, Nat.reduceSub, Nat.reduceMul, Nat.reduceEqDiff, Int.reduceEq, Int.reduceLT, Int.reduceLE, Int.reduceAdd, Int.reduceSub, Int.reduceNeg, Int.reduceGT, Int.reduceGE, Int.reduceNe, ne_eq, not_false_eq_true, e1, h2, avs_cons hb, h3]
  exact Ret.mk g1.grew

theorem ref05_RightPat_spec (t : Pat) (s : St) (h : t.size < 2^26) (H : ∀ n ∈ nodesPat t, n.ok) : Ret (cw (.f F_ref05_RightPat) [t.enc] s) s (rightN (nodesPat t) (deepPat t)).enc := by
  obtain ⟨x, s1, e1, g1⟩ := ref05_OfPat_spec _ t s (Nat.le_refl _) (by omega)
  have hlen := nodesPat_len t
  obtain ⟨b, hb⟩ := g1.av
  have h2 := ref05_deepPat_spec _ t s1 (Nat.le_refl _) (by omega)
  have h3 := ref05_first_spec (nodesPat t) (encS b ((nodesPat t).map TNode.enc)) (by simp only [go_sem, Nat.reduceAdd, Nat.reduceLeDiff, Nat.reduceSub, Nat.reduceMul, Nat.reduceEqDiff, Int.reduceEq, Int.reduceLT, Int.reduceLE, Int.reduceAdd, Int.reduceSub, Int.reduceNeg, Int.reduceGT, Int.reduceGE, Int.reduceNe, ne_eq, not_false_eq_true]) (deepPat t) s1 (by omega) H
  rw [ref05_RightPat_eq]; simp only [go_sem, Nat.reduceAdd, Nat.reduceLeDiff, Nat.reduceSub, Nat.reduceMul, Nat.reduceEqDiff, Int.reduceEq, Int.reduceLT, Int.reduceLE, Int.reduceAdd, Int.reduceSub, Int.reduceNeg, Int.reduceGT, Int.reduceGE, Int.reduceNe, ne_eq, not_false_eq_true, e1, h2, avs_cons hb, h3]
  exact Ret.mk g1.grew

theorem ref05_Size_spec (l : List Dec) (nl : Bool) (s : St) (h : Dec.sizes l < 2^26) : Ret (cw (.f F_ref05_Size) [encS nl (l.map Dec.enc)] s) s (.int .i64 (countN (nodesDecs false l))) := by
  obtain ⟨x, s1, e1, g1⟩ := ref05_Of_spec l nl s h
  have hlen := nodesDecs_len false l
  obtain ⟨b, hb⟩ := g1.av
  have h3 := ref05_count_spec (nodesDecs false l) (encS b ((nodesDecs false l).map TNode.enc)) (by simp only [go_sem, Nat.reduceAdd, Nat.reduceLeDiff, Nat.reduceSub, Nat.reduceMul, Nat.reduceEqDiff, Int.reduceEq, Int.reduceLT, Int.reduceLE, Int.reduceAdd, Int.reduceSub, Int.reduceNeg, Int.reduceGT, Int.reduceGE, Int.reduceNe, ne_eq, not_false_eq_true]) s1 (by omega)
  rw [ref05_Size_eq]; simp only [go_sem, Nat.reduceAdd, Nat.reduceLeDiff, Nat.reduceSub, Nat.reduceMul, Nat.reduceEqDiff, Int.reduceEq, Int.reduceLT, Int.reduceLE, Int.reduceAdd, Int.reduceSub, Int.reduceNeg, Int.reduceGT, Int.reduceGE, Int.reduceNe, ne_eq, not_false_eq_true, e1, avs_cons hb, h3]
  exact Ret.mk g1.grew

end Go.Proofs.Ytemfpnlpnmglfaa
