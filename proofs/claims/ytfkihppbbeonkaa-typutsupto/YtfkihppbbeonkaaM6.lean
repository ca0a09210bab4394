/- A part of the proof: LTyRight, LTyPuts. -/
import Derived.Test.YtfkihppbbeonkaaM5
set_option linter.unusedVariables false
set_option linter.unusedSimpArgs false
namespace Go.Proofs.Ytfkihppbbeonkaa
open Go Go.Am
set_option linter.unusedVariables false
set_option maxRecDepth 4000
def kInt : Ty := .mk 2 0 [105, 110, 116] [] true
def kRef : Ty := .mk 2 0 [114, 101, 102] [] true
theorem law08_knows_spec (s : St) : Ret (cw (.f F_law08_knows) [] s) s (.bool true) := by
  obtain ⟨s1, e1, g1⟩ := ty_Fn_spec (tvar 0) (tvar 2) s (wide_tvar _) (wide_tvar _)
  obtain ⟨s2, e2, g2⟩ := ty_Fn_spec (tvar 2) (fnTy (tvar 0) (tvar 2)) s1 (wide_tvar _) (wide_of_size _ (by decide +kernel))
  obtain ⟨s3, e3, g3⟩ := ty_Canon_spec (fnTy (tvar 2) (fnTy (tvar 0) (tvar 2))) s2 (by decide +kernel)
  obtain ⟨s4, e4, g4⟩ := ty_Fn_spec (tvar 1) (tvar 0) s3 (wide_tvar _) (wide_tvar _)
  obtain ⟨s5, e5, g5⟩ := ty_Fn_spec (tvar 0) (fnTy (tvar 1) (tvar 0)) s4 (wide_tvar _) (wide_of_size _ (by decide +kernel))
  have e6 := ty_Same_spec (canonTy (fnTy (tvar 2) (fnTy (tvar 0) (tvar 2)))).1 (wide_of_size _ (by decide +kernel)) (fnTy (tvar 0) (fnTy (tvar 1) (tvar 0))) s5
  obtain ⟨s7, e7, g7⟩ := ty_Of_spec [105, 110, 116] [] .nils rfl (by decide) (by simp) s5
  obtain ⟨s8, e8, g8⟩ := ty_Of_spec [105, 110, 116] [] .nils rfl (by decide) (by simp) s7
  obtain ⟨s9, e9, g9⟩ := ty_Fn_spec kInt kInt s8 (wide_of_size _ (by decide +kernel)) (wide_of_size _ (by decide +kernel))
  have e10 := ty_Size_spec _ (fnTy kInt kInt) s9 (Nat.le_refl _) (by decide +kernel)
  obtain ⟨s11, e11, g11⟩ := ty_Of_spec [105, 110, 116] [] .nils rfl (by decide) (by simp) s9
  obtain ⟨s12, e12, g12⟩ := ty_Right_spec kInt s11 (by decide +kernel) (by intro n hn; simp only [kInt, nodesTy, nodesTys, List.mem_singleton] at hn; subst hn; simp [TNode.ok, Ty.name])
  obtain ⟨s13, e13, g13⟩ := ty_Of_spec [114, 101, 102] [] .nils rfl (by decide) (by simp) s12
  obtain ⟨s14, e14, g14⟩ := ty_Right_spec kRef s13 (by decide +kernel) (by intro n hn; simp only [kRef, nodesTy, nodesTys, List.mem_singleton] at hn; subst hn; simp [TNode.ok, Ty.name])
  rw [show eqTy (canonTy (fnTy (tvar 2) (fnTy (tvar 0) (tvar 2)))).1 (fnTy (tvar 0) (fnTy (tvar 1) (tvar 0))) = true from by decide +kernel] at e6
  rw [show canonTy (fnTy (tvar 2) (fnTy (tvar 0) (tvar 2))) = (fnTy (tvar 0) (fnTy (tvar 1) (tvar 0)), [2, 0]) from by rfl] at e3 e6
  rw [show (fnTy kInt kInt).size = 3 from by decide +kernel] at e10
  rw [show rightTyB kInt = true from by decide +kernel] at e12
  rw [show rightTyB kRef = false from by decide +kernel] at e14
  have hx : Grew s s14 := (((((((((((g1.trans g2).trans g3).trans g4).trans g5).trans g7).trans g8).trans g9).trans g11).trans g12).trans g13).trans g14)
  simp only [go_sem, Nat.reduceAdd, Nat.reduceLeDiff, Nat.reduceSub, Nat.reduceMul, Nat.reduceEqDiff, Int.reduceEq, Int.reduceLT, Int.reduceLE, Int.reduceAdd, Int.reduceSub, Int.reduceNeg, Int.reduceGT, Int.reduceGE, Int.reduceNe, ne_eq, not_false_eq_true, kInt, kRef, fnTy, ofTy, tvar, List.map, ownTy, ownTys, Ty.enc, ekI, encS_cons] at e1 e2 e3 e4 e5 e6 e7 e8 e9 e10 e11 e12 e13 e14
  have i0 : ixS 1 (.val (.sl [.int .i64 2, .int .i64 0])) (.val (.int .i64 0)) = some (.val (.cp [.int .i64 2])) := rfl
  have i1 : ixS 1 (.val (.sl [.int .i64 2, .int .i64 0])) (.val (.int .i64 1)) = some (.val (.cp [.int .i64 0])) := rfl
  have q2 : decide (((2 : Nat) : Int) = 2) = true := rfl
  have q3 : decide (((3 : Nat) : Int) = 3) = true := rfl
  rw [law08_knows_eq]
  simp only [go_sem, Nat.reduceAdd, Nat.reduceLeDiff, Nat.reduceSub, Nat.reduceMul, Nat.reduceEqDiff, Int.reduceEq, Int.reduceLT, Int.reduceLE, Int.reduceAdd, Int.reduceSub, Int.reduceNeg, Int.reduceGT, Int.reduceGE, Int.reduceNe, ne_eq, not_false_eq_true, e1, e2, e3, e4, e5, e6, e7, e8, e9, e10, e11, e12, e13, e14, i0, i1, q2, q3]
  exact ⟨_, rfl, hx⟩
end Go.Proofs.Ytfkihppbbeonkaa

namespace Go.Proofs.Ytfkihppbbeonkaa
open Go Go.Am
set_option linter.unusedVariables false
set_option maxRecDepth 4000
theorem mul_lt_40 {a b : Nat} (h : a + b ≤ 2^20) (h1 : 1 ≤ a) : a * (b + 1) < 2^40 := by
  by_cases ha : a ≤ 2^19
  · have := Nat.mul_le_mul ha (show b + 1 ≤ 2^20 by omega); omega
  · have := Nat.mul_le_mul (show a ≤ 2^20 by omega) (show b + 1 ≤ 2^19 by omega); omega
theorem law08_TyPuts_spec (t : Ty) (l : List Ty) (nl : Bool) (s : St) (h : t.size + Ty.sizes l ≤ 2^20) (hn : NamesTy t) (hln : ∀ u ∈ l, NamesTy u) : Ret (cw (.f F_law08_TyPuts) [t.enc, encS nl (l.map Ty.enc)] s) s (.bool true) := by
  have hll := Ty.len_sizes l
  have hls : ∀ u ∈ l, u.size < 2^28 := fun u hu => by have := Ty.mem_sizes hu; omega
  obtain ⟨s1, e1, g1⟩ := ref08_Formed_spec t s (by omega) hn
  obtain ⟨s2, e2, g2⟩ := law08_Formed_spec l (encS nl (l.map Ty.enc)) (list?_encS _ _) s1 (by omega) (fun u hu => ⟨hls u hu, hln u hu⟩)
  rw [law08_TyPuts_eq]
  simp only [Ty.enc] at e1
  cases ht : allTy goodB t with
  | false =>
    rw [ht] at e1
    obtain ⟨s3, e3, g3⟩ := law08_knows_spec s1
    simp only [go_sem, Nat.reduceAdd, Nat.reduceLeDiff, Nat.reduceSub, Nat.reduceMul, Nat.reduceEqDiff, Int.reduceEq, Int.reduceLT, Int.reduceLE, Int.reduceAdd, Int.reduceSub, Int.reduceNeg, Int.reduceGT, Int.reduceGE, Int.reduceNe, ne_eq, not_false_eq_true, Ty.enc, e1, e3]
    exact ⟨_, rfl, g1.trans g3⟩
  | true =>
    rw [ht] at e1
    cases hl' : l.all (allTy goodB) with
    | false =>
      rw [hl'] at e2
      obtain ⟨s3, e3, g3⟩ := law08_knows_spec s2
      simp only [go_sem, Nat.reduceAdd, Nat.reduceLeDiff, Nat.reduceSub, Nat.reduceMul, Nat.reduceEqDiff, Int.reduceEq, Int.reduceLT, Int.reduceLE, Int.reduceAdd, Int.reduceSub, Int.reduceNeg, Int.reduceGT, Int.reduceGE, Int.reduceNe, ne_eq, not_false_eq_true, Ty.enc, e1, e2, e3]
      exact ⟨_, rfl, (g1.trans g2).trans g3⟩
    | true =>
      rw [hl'] at e2
      obtain ⟨s3, e3, g3⟩ := ty_Canon_spec t s2 (by omega)
      obtain ⟨s4, e4, g4⟩ := ref08_Canon_spec t s3 (by omega)
      obtain ⟨s5, e5, g5⟩ := ty_Vars_spec t s4 (by omega)
      obtain ⟨x, s6, e6, a6, g6⟩ := ref08_Vars_spec t s5 (by omega)
      have hlen := chCanon_len t []
      simp only [List.length_nil] at hlen
      have e7 := ref08_SameInts_spec (canonTy t).2 (varsTyR t) (encS true ((canonTy t).2.map ekI)) (encS true ((varsTyR t).map ekI)) (list?_encS _ _) (list?_encS _ _) (by show (chTy toCanon t []).2.length < _; omega) s6
      obtain ⟨s8, e8, g8⟩ := ty_Put_spec t l nl s6 (wide_of_size t (by omega)) (by omega) (fun u hu => wide_of_size u (hls u hu))
      obtain ⟨s9, e9, g9⟩ := ref08_Put_spec t l nl s8 (by omega) (by omega) hls
      have e10 := ref08_Same_spec (putTy t l) (putR l t) s9
      have e11 := ref08_Same_spec (canonTy t).1 (renR (varsTyR t) t) s9
      have e12 := ref08_SameInts_spec (canonTy t).2 (varsTyR t) (encS true ((canonTy t).2.map ekI)) (encS true ((varsTyR t).map ekI)) (list?_encS _ _) (list?_encS _ _) (by show (chTy toCanon t []).2.length < _; omega) s9
      obtain ⟨s13, e13, g13⟩ := law08_knows_spec s9
      rw [put_eq l t ht] at e9 e10
      rw [canon_eq t ht] at e4 e11
      rw [vars_eq t ht] at e4 e7 e12 a6
      rw [decide_eq_true rfl] at e7 e12
      rw [eqTy_refl] at e10 e11
      have hz1 := putTy_size t l
      have hz2 := mul_lt_40 h t.size_pos
      have hz3 := canonTy_size t
      have e10 := e10 (by omega)
      have e11 := e11 (by omega)
      have hx := avs_cons a6.av []
      simp only [Ty.enc] at e3 e4 e5 e6 e8 e9 e10 e11
      simp only [go_sem, Nat.reduceAdd, Nat.reduceLeDiff, Nat.reduceSub, Nat.reduceMul, Nat.reduceEqDiff, Int.reduceEq, Int.reduceLT, Int.reduceLE, Int.reduceAdd, Int.reduceSub, Int.reduceNeg, Int.reduceGT, Int.reduceGE, Int.reduceNe, ne_eq, not_false_eq_true, Ty.enc, e1, e2, e3, e4, e5, e6, avs_cons a6.av, e7, e8, e9, e10, e11, e12, e13]
      exact ⟨_, rfl, ((((((((g1.trans g2).trans g3).trans g4).trans g5).trans g6).trans g8).trans g9).trans g13)⟩
theorem law08_TyPuts_row {k0 k1 : Nat} (t : Ty) (g0 : GTy k0 t) (l : List Ty) (b : Bool) (g1 : GTys k1 l) (hb : k0 + (k1 + 0) ≤ 1048576) : Ret (cw (.f F_law08_TyPuts) [t.enc, encS b (l.map Ty.enc)] st0) st0 (.bool true) :=
  law08_TyPuts_spec t l b st0 (by have := g0.1; have := g1.1; omega) (g0.2 0) (fun u hu => fun n hn => g1.2 0 n (nodesTys_mem 0 hu n hn))
end Go.Proofs.Ytfkihppbbeonkaa
