/- The document's answer for the tree layer: what is wrong with a node. -/
import Derived.Test.YtemfpnlpnmglfaaSRef2
set_option linter.unusedVariables false
set_option linter.unusedSimpArgs false
namespace Go.Proofs.Ytemfpnlpnmglfaa
open Go Go.Am
set_option maxRecDepth 4000

theorem ref05_wrong_spec (nd : TNode) (s : St) (h : nd.ok) : ∃ nm : Str, cw (.f F_ref05_wrong) [nd.enc] s = some (.ret (.val (.tup [.int .i64 nd.wrong.1, .str nm])), s) ∧ (nd.wrong.1 = 8 → nm = nd.wrong.2) := by
  rw [ref05_wrong_eq]
  cases nd with
  | dec inn d =>
    have hn : d.name.length < 2^62 := by simp only [TNode.ok] at h; omega
    have hw := fun s => ref05_dec_spec d inn s hn
    obtain ⟨k, a, nm, p, l, nb, c, cb, f, fb⟩ := d
    simp only [go_sem, Nat.reduceAdd, Nat.reduceLeDiff, Nat.reduceSub, Nat.reduceMul, Nat.reduceEqDiff, Int.reduceEq, Int.reduceLT, Int.reduceLE, Int.reduceAdd, Int.reduceSub, Int.reduceNeg, Int.reduceGT, Int.reduceGE, Int.reduceNe, ne_eq, not_false_eq_true, Dec.enc] at hw
    simp only [go_sem, Nat.reduceAdd, Nat.reduceLeDiff, Nat.reduceSub, Nat.reduceMul, Nat.reduceEqDiff, Int.reduceEq, Int.reduceLT, Int.reduceLE, Int.reduceAdd, Int.reduceSub, Int.reduceNeg, Int.reduceGT, Int.reduceGE, Int.reduceNe, ne_eq, not_false_eq_true, TNode.cells, hw]
    exact ⟨nm, rfl, fun _ => rfl⟩
  | exp e =>
    obtain ⟨h0, h1, h2, h3⟩ := h
    have hw := fun s => ref05_exp_spec e s (by omega) h1 h2 h3
    obtain ⟨k, a, nm, n, l, lb, c, cb, d, db⟩ := e
    simp only [go_sem, Nat.reduceAdd, Nat.reduceLeDiff, Nat.reduceSub, Nat.reduceMul, Nat.reduceEqDiff, Int.reduceEq, Int.reduceLT, Int.reduceLE, Int.reduceAdd, Int.reduceSub, Int.reduceNeg, Int.reduceGT, Int.reduceGE, Int.reduceNe, ne_eq, not_false_eq_true, Exp.enc] at hw
    simp only [go_sem, Nat.reduceAdd, Nat.reduceLeDiff, Nat.reduceSub, Nat.reduceMul, Nat.reduceEqDiff, Int.reduceEq, Int.reduceLT, Int.reduceLE, Int.reduceAdd, Int.reduceSub, Int.reduceNeg, Int.reduceGT, Int.reduceGE, Int.reduceNe, ne_eq, not_false_eq_true, TNode.cells, Dec.zero, hw]
    exact ⟨nm, rfl, fun _ => rfl⟩
  | pat e =>
    obtain ⟨h0, h2, h3⟩ := h
    have hw := fun s => ref05_pat_spec e s (by omega) h2 h3
    obtain ⟨k, a, nm, n, l, lb⟩ := e
    simp only [go_sem, Nat.reduceAdd, Nat.reduceLeDiff, Nat.reduceSub, Nat.reduceMul, Nat.reduceEqDiff, Int.reduceEq, Int.reduceLT, Int.reduceLE, Int.reduceAdd, Int.reduceSub, Int.reduceNeg, Int.reduceGT, Int.reduceGE, Int.reduceNe, ne_eq, not_false_eq_true, Pat.enc] at hw
    simp only [go_sem, Nat.reduceAdd, Nat.reduceLeDiff, Nat.reduceSub, Nat.reduceMul, Nat.reduceEqDiff, Int.reduceEq, Int.reduceLT, Int.reduceLE, Int.reduceAdd, Int.reduceSub, Int.reduceNeg, Int.reduceGT, Int.reduceGE, Int.reduceNe, ne_eq, not_false_eq_true, TNode.cells, Dec.zero, Exp.zero, hw]
    exact ⟨nm, rfl, fun _ => rfl⟩
  | ty e a =>
    have hn : e.name.length < 2^62 := by simp only [TNode.ok] at h; omega
    have hw := fun s => ref05_ty_spec e s hn
    obtain ⟨k, n, nm, l, lb⟩ := e
    simp only [go_sem, Nat.reduceAdd, Nat.reduceLeDiff, Nat.reduceSub, Nat.reduceMul, Nat.reduceEqDiff, Int.reduceEq, Int.reduceLT, Int.reduceLE, Int.reduceAdd, Int.reduceSub, Int.reduceNeg, Int.reduceGT, Int.reduceGE, Int.reduceNe, ne_eq, not_false_eq_true, Ty.enc] at hw
    simp only [go_sem, Nat.reduceAdd, Nat.reduceLeDiff, Nat.reduceSub, Nat.reduceMul, Nat.reduceEqDiff, Int.reduceEq, Int.reduceLT, Int.reduceLE, Int.reduceAdd, Int.reduceSub, Int.reduceNeg, Int.reduceGT, Int.reduceGE, Int.reduceNe, ne_eq, not_false_eq_true, TNode.cells, Dec.zero, Exp.zero, Pat.zero, hw]
    exact ⟨nm, rfl, fun _ => rfl⟩
  | fn f =>
    have hn : f.name.length < 2^62 := by simp only [TNode.ok] at h; omega
    have hw := fun s => ref05_Low_spec f.name s hn
    obtain ⟨nm, a, c⟩ := f
    simp only [Fun.name, low_eq] at hw
    simp only [go_sem, Nat.reduceAdd, Nat.reduceLeDiff, Nat.reduceSub, Nat.reduceMul, Nat.reduceEqDiff, Int.reduceEq, Int.reduceLT, Int.reduceLE, Int.reduceAdd, Int.reduceSub, Int.reduceNeg, Int.reduceGT, Int.reduceGE, Int.reduceNe, ne_eq, not_false_eq_true, TNode.cells, Dec.zero, Exp.zero, Pat.zero, Ty.zero, hw]
    cases hl : lowB nm
    · simp only [go_sem, Nat.reduceAdd, Nat.reduceLeDiff, Nat.reduceSub, Nat.reduceMul, Nat.reduceEqDiff, Int.reduceEq, Int.reduceLT, Int.reduceLE, Int.reduceAdd, Int.reduceSub, Int.reduceNeg, Int.reduceGT, Int.reduceGE, Int.reduceNe, ne_eq, not_false_eq_true]; exact ⟨nm, by simp only [TNode.wrong, Fun.name, hl]; rfl, fun _ => rfl⟩
    · simp only [go_sem, Nat.reduceAdd, Nat.reduceLeDiff, Nat.reduceSub, Nat.reduceMul, Nat.reduceEqDiff, Int.reduceEq, Int.reduceLT, Int.reduceLE, Int.reduceAdd, Int.reduceSub, Int.reduceNeg, Int.reduceGT, Int.reduceGE, Int.reduceNe, ne_eq, not_false_eq_true]; exact ⟨[], by simp only [TNode.wrong, Fun.name, hl]; rfl, fun h => by simp only [TNode.wrong, Fun.name, hl] at h; cases h⟩
  | con c =>
    have hn : c.name.length < 2^62 := by simp only [TNode.ok] at h; omega
    have hw := fun s => ref05_Capital_spec c.name s hn
    have hz := fun s => ref05_zeroTy_spec c.arg s
    obtain ⟨nm, a, hs, arg⟩ := c
    obtain ⟨tk, tn, tnm, tl, tb⟩ := arg
    simp only [cap_eq] at hw
    simp only [go_sem, Nat.reduceAdd, Nat.reduceLeDiff, Nat.reduceSub, Nat.reduceMul, Nat.reduceEqDiff, Int.reduceEq, Int.reduceLT, Int.reduceLE, Int.reduceAdd, Int.reduceSub, Int.reduceNeg, Int.reduceGT, Int.reduceGE, Int.reduceNe, ne_eq, not_false_eq_true, Ty.enc] at hz
    simp only [go_sem, Nat.reduceAdd, Nat.reduceLeDiff, Nat.reduceSub, Nat.reduceMul, Nat.reduceEqDiff, Int.reduceEq, Int.reduceLT, Int.reduceLE, Int.reduceAdd, Int.reduceSub, Int.reduceNeg, Int.reduceGT, Int.reduceGE, Int.reduceNe, ne_eq, not_false_eq_true, TNode.cells, Con.cells, Dec.zero, Exp.zero, Pat.zero, Ty.zero, Fun.zero, Case.zero, hw, hz]
    have hb : (!hs && !(decide (tk = 0) && decide (tn = 0) && decide (tnm = []) && decide ((tl.length : Int) = 0))) = (!hs && (!decide (tk = 0) || !decide (tn = 0) || !decide (tnm = []) || decide ((tl.length : Int) > 0))) := by
      cases hs <;> by_cases h1 : tk = 0 <;> by_cases h2 : tn = 0 <;> by_cases h3 : tnm = [] <;> cases tl <;> simp [h1, h2, h3] <;> omega
    have key : ∀ b1 b2 : Bool, ∃ nm' : Str, some (Out.ret (Slot.val (bif b1 then AV.tup [.int .i64 29, .str []] else bif !b2 then AV.tup [.int .i64 8, .str nm] else AV.tup [.int .i64 0, .str []])), s) = some (Out.ret (Slot.val (.tup [.int .i64 (bif b1 then 29 else bif !b2 then 8 else 0), .str nm'])), s) ∧ ((bif b1 then (29 : Int) else bif !b2 then 8 else 0) = 8 → nm' = nm) := by
      intro b1 b2
      cases b1 <;> cases b2
      · exact ⟨nm, rfl, fun _ => rfl⟩
      · exact ⟨[], rfl, fun h => by cases h⟩
      · exact ⟨[], rfl, fun h => by cases h⟩
      · exact ⟨[], rfl, fun h => by cases h⟩
    obtain ⟨nm', e1, e2⟩ := key (!hs && !(decide (tk = 0) && decide (tn = 0) && decide (tnm = []) && decide ((tl.length : Int) = 0))) (capB nm)
    have hw2 : (TNode.con ⟨nm, a, hs, .mk tk tn tnm tl tb⟩).wrong = (bif (!hs && !(decide (tk = 0) && decide (tn = 0) && decide (tnm = []) && decide ((tl.length : Int) = 0))) then 29 else bif !capB nm then 8 else 0, nm) := by
      rw [hb]; rfl
    rw [hw2]
    exact ⟨nm', e1, e2⟩

end Go.Proofs.Ytemfpnlpnmglfaa
