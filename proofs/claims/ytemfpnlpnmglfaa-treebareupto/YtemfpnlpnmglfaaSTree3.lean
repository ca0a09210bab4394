/- The tree layer: what is wrong with a thing. -/
import Derived.Test.YtemfpnlpnmglfaaSTree2
set_option linter.unusedVariables false
set_option linter.unusedSimpArgs false
namespace Go.Proofs.Ytemfpnlpnmglfaa
open Go Go.Am
set_option maxRecDepth 4000

theorem tree_thing_node_spec (nd : TNode) (r : List AV) (s : St) : cw (.f F_tree_thing_node) [nd.thing r] s = some (.ret (.val (.bool nd.isNode)), s) := by
  rw [tree_thing_node_eq]
  cases nd <;> simp only [go_sem, Nat.reduceAdd, Nat.reduceLeDiff, Nat.reduceSub, Nat.reduceMul, Nat.reduceEqDiff, Int.reduceEq, Int.reduceLT, Int.reduceLE, Int.reduceAdd, Int.reduceSub, Int.reduceNeg, Int.reduceGT, Int.reduceGE, Int.reduceNe, ne_eq, not_false_eq_true, TNode.thing, TNode.isNode]

theorem tree_thing_wrong_spec (nd : TNode) (r : List AV) (s : St) (h : nd.name.length < 2^40) : cw (.f F_tree_thing_wrong) [nd.thing r] s = some (.ret (.val nd.bad.enc), s) := by
  rw [tree_thing_wrong_eq]
  have key : ∀ (e a : Int) (nm : Str) (v : List Slot) (s : St), v.getD 7 .und = .val (.int .i64 a) → v.length = 8 → tree_thing_wrong_j0 v [.val (.int .i64 0), .val (.int .i64 0), .val (.str [])] (.val (.int .i64 e)) (.val (.str nm)) s = some (.ret (.val (mkBad e a nm).enc), s) := by
    intro e a nm v s hv hl
    have hd : (v.drop 7).take 1 = [.val (.int .i64 a)] := by
      match v, hl with
      | [_, _, _, _, _, _, _, x], _ => simpa using hv
    rw [tree_thing_wrong_j0_eq]
    by_cases h0 : e = 0
    · subst h0
      simp only [go_sem, Nat.reduceAdd, Nat.reduceLeDiff, Nat.reduceSub, Nat.reduceMul, Nat.reduceEqDiff, Int.reduceEq, Int.reduceLT, Int.reduceLE, Int.reduceAdd, Int.reduceSub, Int.reduceNeg, Int.reduceGT, Int.reduceGE, Int.reduceNe, ne_eq, not_false_eq_true, hd]
      rfl
    · by_cases h8 : e = 8
      · subst h8
        simp only [go_sem, Nat.reduceAdd, Nat.reduceLeDiff, Nat.reduceSub, Nat.reduceMul, Nat.reduceEqDiff, Int.reduceEq, Int.reduceLT, Int.reduceLE, Int.reduceAdd, Int.reduceSub, Int.reduceNeg, Int.reduceGT, Int.reduceGE, Int.reduceNe, ne_eq, not_false_eq_true, hd]
        rfl
      · simp only [go_sem, Nat.reduceAdd, Nat.reduceLeDiff, Nat.reduceSub, Nat.reduceMul, Nat.reduceEqDiff, Int.reduceEq, Int.reduceLT, Int.reduceLE, Int.reduceAdd, Int.reduceSub, Int.reduceNeg, Int.reduceGT, Int.reduceGE, Int.reduceNe, ne_eq, not_false_eq_true, hd, decide_eq_false h0, decide_eq_false h8, mkBad]
        rfl
  cases nd with
  | dec inn d =>
    have hn : d.name.length < 2^62 := by simp only [TNode.name] at h; omega
    have hw := fun s => tree_wrongDec_spec d inn d.at_ r s hn
    obtain ⟨k, a, nm, p, l, nb, c, cb, f, fb⟩ := d
    simp only [go_sem, Nat.reduceAdd, Nat.reduceLeDiff, Nat.reduceSub, Nat.reduceMul, Nat.reduceEqDiff, Int.reduceEq, Int.reduceLT, Int.reduceLE, Int.reduceAdd, Int.reduceSub, Int.reduceNeg, Int.reduceGT, Int.reduceGE, Int.reduceNe, ne_eq, not_false_eq_true, Exp.enc, Pat.enc, Ty.enc, Dec.enc] at hw
    simp only [go_sem, Nat.reduceAdd, Nat.reduceLeDiff, Nat.reduceSub, Nat.reduceMul, Nat.reduceEqDiff, Int.reduceEq, Int.reduceLT, Int.reduceLE, Int.reduceAdd, Int.reduceSub, Int.reduceNeg, Int.reduceGT, Int.reduceGE, Int.reduceNe, ne_eq, not_false_eq_true, TNode.thing, hw]
    exact key _ _ _ _ _ rfl rfl
  | exp e =>
    have hn : e.name.length < 2^62 := by simp only [TNode.name] at h; omega
    have hw := fun s => tree_wrongExp_spec e s hn
    obtain ⟨k, a, nm, n, l, lb, c, cb, d, db⟩ := e
    simp only [go_sem, Nat.reduceAdd, Nat.reduceLeDiff, Nat.reduceSub, Nat.reduceMul, Nat.reduceEqDiff, Int.reduceEq, Int.reduceLT, Int.reduceLE, Int.reduceAdd, Int.reduceSub, Int.reduceNeg, Int.reduceGT, Int.reduceGE, Int.reduceNe, ne_eq, not_false_eq_true, Exp.enc, Pat.enc, Ty.enc, Dec.enc] at hw
    simp only [go_sem, Nat.reduceAdd, Nat.reduceLeDiff, Nat.reduceSub, Nat.reduceMul, Nat.reduceEqDiff, Int.reduceEq, Int.reduceLT, Int.reduceLE, Int.reduceAdd, Int.reduceSub, Int.reduceNeg, Int.reduceGT, Int.reduceGE, Int.reduceNe, ne_eq, not_false_eq_true, TNode.thing, hw]
    exact key _ _ _ _ _ rfl rfl
  | pat e =>
    have hn : e.name.length < 2^62 := by simp only [TNode.name] at h; omega
    have hw := fun s => tree_wrongPat_spec e s hn
    obtain ⟨k, a, nm, n, l, lb⟩ := e
    simp only [go_sem, Nat.reduceAdd, Nat.reduceLeDiff, Nat.reduceSub, Nat.reduceMul, Nat.reduceEqDiff, Int.reduceEq, Int.reduceLT, Int.reduceLE, Int.reduceAdd, Int.reduceSub, Int.reduceNeg, Int.reduceGT, Int.reduceGE, Int.reduceNe, ne_eq, not_false_eq_true, Exp.enc, Pat.enc, Ty.enc, Dec.enc] at hw
    simp only [go_sem, Nat.reduceAdd, Nat.reduceLeDiff, Nat.reduceSub, Nat.reduceMul, Nat.reduceEqDiff, Int.reduceEq, Int.reduceLT, Int.reduceLE, Int.reduceAdd, Int.reduceSub, Int.reduceNeg, Int.reduceGT, Int.reduceGE, Int.reduceNe, ne_eq, not_false_eq_true, TNode.thing, hw]
    exact key _ _ _ _ _ rfl rfl
  | ty e a =>
    have hn : e.name.length < 2^62 := by simp only [TNode.name] at h; omega
    have hw := fun s => tree_wrongTy_spec e s hn
    obtain ⟨k, n, nm, l, lb⟩ := e
    simp only [go_sem, Nat.reduceAdd, Nat.reduceLeDiff, Nat.reduceSub, Nat.reduceMul, Nat.reduceEqDiff, Int.reduceEq, Int.reduceLT, Int.reduceLE, Int.reduceAdd, Int.reduceSub, Int.reduceNeg, Int.reduceGT, Int.reduceGE, Int.reduceNe, ne_eq, not_false_eq_true, Exp.enc, Pat.enc, Ty.enc, Dec.enc] at hw
    simp only [go_sem, Nat.reduceAdd, Nat.reduceLeDiff, Nat.reduceSub, Nat.reduceMul, Nat.reduceEqDiff, Int.reduceEq, Int.reduceLT, Int.reduceLE, Int.reduceAdd, Int.reduceSub, Int.reduceNeg, Int.reduceGT, Int.reduceGE, Int.reduceNe, ne_eq, not_false_eq_true, TNode.thing, hw]
    exact key _ _ _ _ _ rfl rfl
  | fn f =>
    have hn : f.name.length < 2^62 := by simp only [TNode.name] at h; omega
    have hw := fun s => tree_low_spec f.name s hn
    obtain ⟨nm, a, c⟩ := f
    simp only [Fun.name] at hw
    have k0 := fun v s h1 h2 => key 0 a nm v s h1 h2
    have k8 := fun v s h1 h2 => key 8 a nm v s h1 h2
    simp only [go_sem, Nat.reduceAdd, Nat.reduceLeDiff, Nat.reduceSub, Nat.reduceMul, Nat.reduceEqDiff, Int.reduceEq, Int.reduceLT, Int.reduceLE, Int.reduceAdd, Int.reduceSub, Int.reduceNeg, Int.reduceGT, Int.reduceGE, Int.reduceNe, ne_eq, not_false_eq_true, TNode.thing, hw, Fun.at_]
    show _ = some (Out.ret (.val (mkBad (bif !lowB nm then 8 else 0) a nm).enc), s)
    cases lowB nm
    · simp only [go_sem, Nat.reduceAdd, Nat.reduceLeDiff, Nat.reduceSub, Nat.reduceMul, Nat.reduceEqDiff, Int.reduceEq, Int.reduceLT, Int.reduceLE, Int.reduceAdd, Int.reduceSub, Int.reduceNeg, Int.reduceGT, Int.reduceGE, Int.reduceNe, ne_eq, not_false_eq_true]; exact key 8 a nm _ s rfl rfl
    · simp only [go_sem, Nat.reduceAdd, Nat.reduceLeDiff, Nat.reduceSub, Nat.reduceMul, Nat.reduceEqDiff, Int.reduceEq, Int.reduceLT, Int.reduceLE, Int.reduceAdd, Int.reduceSub, Int.reduceNeg, Int.reduceGT, Int.reduceGE, Int.reduceNe, ne_eq, not_false_eq_true]; exact key 0 a nm _ s rfl rfl
  | con c =>
    have hn : c.name.length < 2^62 := by simp only [TNode.name] at h; omega
    have hw := fun s => tree_wrongCon_spec c s hn
    obtain ⟨nm, a, hs, arg⟩ := c
    simp only [go_sem, Nat.reduceAdd, Nat.reduceLeDiff, Nat.reduceSub, Nat.reduceMul, Nat.reduceEqDiff, Int.reduceEq, Int.reduceLT, Int.reduceLE, Int.reduceAdd, Int.reduceSub, Int.reduceNeg, Int.reduceGT, Int.reduceGE, Int.reduceNe, ne_eq, not_false_eq_true, Con.enc, Con.cells] at hw
    simp only [go_sem, Nat.reduceAdd, Nat.reduceLeDiff, Nat.reduceSub, Nat.reduceMul, Nat.reduceEqDiff, Int.reduceEq, Int.reduceLT, Int.reduceLE, Int.reduceAdd, Int.reduceSub, Int.reduceNeg, Int.reduceGT, Int.reduceGE, Int.reduceNe, ne_eq, not_false_eq_true, TNode.thing, Con.cells, hw]
    exact key _ _ _ _ _ rfl rfl

end Go.Proofs.Ytemfpnlpnmglfaa
