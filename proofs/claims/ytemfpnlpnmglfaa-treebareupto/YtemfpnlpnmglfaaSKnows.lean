/- The tree layer's small examples, which each law runs. -/
import Derived.Test.YtemfpnlpnmglfaaSTree7
set_option linter.unusedVariables false
set_option linter.unusedSimpArgs false
namespace Go.Am
open Go
@[go_sem] theorem fillS_full {l : List AV} {off sz : Nat} {m : List AV} (h : sz = 1) (k : off + 1 ≤ l.length) (r : List (Nat × Nat × Slot)) : fillS l ((off, sz, .full m) :: r) = fillS (l.take off ++ ([.sl m] ++ l.drop (off + 1))) r := by
  subst h
  exact fillS_cons (x := .full m) (v := .sl m) rfl rfl rfl k r
end Go.Am

namespace Go.Proofs.Ytemfpnlpnmglfaa
open Go Go.Am
set_option maxRecDepth 4000

theorem eqBad (a b a' b' : Int) (c c' : Str) : eqS (C.ti T_Bad) (.agg [.int .i64 a, .int .i64 b, .str c]) (.agg [.int .i64 a', .int .i64 b', .str c']) = some (decide (TBad.mk a b c = TBad.mk a' b' c')) := by
  unfold eqS
  simp only [T_Bad_k, T_Bad_flat]
  have e1 : (a == a') = decide (a = a') := by rw [Bool.eq_iff_iff]; simp
  have e2 : (b == b') = decide (b = b') := by rw [Bool.eq_iff_iff]; simp
  have e3 : (c == c') = decide (c = c') := by rw [Bool.eq_iff_iff]; simp
  by_cases h1 : a = a' <;> by_cases h2 : b = b' <;> by_cases h3 : c = c' <;> simp [eqAll, TK.has, AV.eqb, e1, e2, e3, h1, h2, h3]
theorem binBad_eql (a b a' b' : Int) (c c' : Str) : binS (C.ti T_Bad) .eql (.val (.agg [.int .i64 a, .int .i64 b, .str c])) (.val (.agg [.int .i64 a', .int .i64 b', .str c'])) = some (.val (.bool (decide (TBad.mk a b c = TBad.mk a' b' c')))) := by
  unfold binS
  simp only [av_val, eqBad]
  rfl
theorem binBad_neq (a b a' b' : Int) (c c' : Str) : binS (C.ti T_Bad) .neq (.val (.agg [.int .i64 a, .int .i64 b, .str c])) (.val (.agg [.int .i64 a', .int .i64 b', .str c'])) = some (.val (.bool (!decide (TBad.mk a b c = TBad.mk a' b' c')))) := by
  unfold binS
  simp only [av_val, eqBad]
  rfl
@[go_sem] theorem binBad_same (a b : Int) (c : Str) : binS (C.ti T_Bad) .eql (.val (.agg [.int .i64 a, .int .i64 b, .str c])) (.val (.agg [.int .i64 a, .int .i64 b, .str c])) = some (.val (.bool true)) := by
  rw [binBad_eql, decide_eq_true rfl]

def kE1 : Exp := .mk 4 0 [] 0 [.mk 1 0 [] 1 [] true [] true [] true] false [] true [] true
def kP : Pat := .mk 6 0 [120] 0 [.mk 2 0 [121] 0 [] true] false
def kE2 : Exp := .mk 2 4 [78, 105, 108] 0 [] true [] true [] true
def kD : List Dec := [.mk 1 0 [] 0 [] true [.mk kP kE1] false [] true]
theorem k1 : rightN (nodesExp kE1) (deepExp kE1) = ⟨19, 0, []⟩ := by decide +kernel
theorem k2 : rightN (nodesExp kE2) (deepExp kE2) = ⟨8, 4, [78, 105, 108]⟩ := by decide +kernel
theorem k3 : countN (nodesDecs false kD) = 5 := by decide +kernel
theorem k4 : varsPat kP = [[120], [121]] := by decide +kernel
theorem kok1 : ∀ n ∈ nodesExp kE1, n.ok := by
  intro n hn
  simp only [kE1, nodesExp, nodesExps, nodesCases, nodesDecs, List.nil_append, List.append_nil, List.mem_cons, List.not_mem_nil, or_false] at hn
  rcases hn with rfl | rfl <;> simp [TNode.ok, Exp.name, Exp.kids, Exp.n]
theorem kok2 : ∀ n ∈ nodesExp kE2, n.ok := by
  intro n hn
  simp only [kE2, nodesExp, nodesExps, nodesCases, nodesDecs, List.nil_append, List.append_nil, List.mem_cons, List.not_mem_nil, or_false] at hn
  rcases hn with rfl <;> simp [TNode.ok, Exp.name, Exp.kids, Exp.n]

theorem law05_knows_spec (s : St) : Ret (cw (.f F_law05_knows) [] s) s (.bool true) := by
  obtain ⟨x, s1, e1, g1⟩ := tree_Vars_spec kP s (by decide +kernel)
  obtain ⟨s2, e2, g2⟩ := tree_RightExp_spec kE1 s1 (by decide +kernel) kok1
  obtain ⟨s3, e3, g3⟩ := tree_RightExp_spec kE2 s2 (by decide +kernel) kok2
  obtain ⟨s4, e4, g4⟩ := tree_Size_spec kD false s3 (by decide +kernel)
  rw [k1] at e2
  rw [k2] at e3
  rw [k3] at e4
  rw [k4] at g1
  have hx := g1.list?
  have hg : Grew s s4 := ((g1.grew.trans g2).trans g3).trans g4
  simp only [go_sem, Nat.reduceAdd, Nat.reduceLeDiff, Nat.reduceSub, Nat.reduceMul, Nat.reduceEqDiff, Int.reduceEq, Int.reduceLT, Int.reduceLE, Int.reduceAdd, Int.reduceSub, Int.reduceNeg, Int.reduceGT, Int.reduceGE, Int.reduceNe, ne_eq, not_false_eq_true, kD, kP, kE1, kE2, List.map, TBad.enc, TBad.cells, encS_false, Pat.enc, Exp.enc, Dec.enc, Case.enc, Case.cells, Case.encs, Fun.encs] at e1 e2 e3 e4 hx
  rw [law05_knows_eq]
  have q2 : decide (((2 : Nat) : Int) = 2) = true := rfl
  have q5 : decide (((5 : Nat) : Int) = 5) = true := rfl
  have i0 : ixS 1 x (.val (.int .i64 0)) = some (.val (.cp [.str [120]])) := ixS_get (n := 0) (v := .str [120]) hx rfl rfl (by decide)
  have i1 : ixS 1 x (.val (.int .i64 1)) = some (.val (.cp [.str [121]])) := ixS_get (n := 1) (v := .str [121]) hx rfl rfl (by decide)
  simp only [go_sem, Nat.reduceAdd, Nat.reduceLeDiff, Nat.reduceSub, Nat.reduceMul, Nat.reduceEqDiff, Int.reduceEq, Int.reduceLT, Int.reduceLE, Int.reduceAdd, Int.reduceSub, Int.reduceNeg, Int.reduceGT, Int.reduceGE, Int.reduceNe, ne_eq, not_false_eq_true, e1, e2, e3, e4, hx, q2, q5, i0, i1, decide_eq_true (Eq.refl [(120 : UInt8)]), decide_eq_true (Eq.refl [(121 : UInt8)])]
  exact ⟨_, rfl, hg⟩

end Go.Proofs.Ytemfpnlpnmglfaa
