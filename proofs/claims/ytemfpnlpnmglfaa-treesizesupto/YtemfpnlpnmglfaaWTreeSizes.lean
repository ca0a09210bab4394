/- The row: whatever program comes in (of bulk up to 1048576), the law of sizes answers true and leaves it as it was. -/
import Derived.Test.YtemfpnlpnmglfaaPBare
import Derived.Test.YtemfpnlpnmglfaaSTree7
import Derived.Test.YtemfpnlpnmglfaaSRef6
import Derived.Test.YtemfpnlpnmglfaaSRef8
import Derived.Test.YtemfpnlpnmglfaaSTree9
import Derived.Test.YtemfpnlpnmglfaaSRef9
import Derived.Test.YtemfpnlpnmglfaaRBase
set_option linter.unusedVariables false
set_option linter.unusedSimpArgs false
namespace Go.Am
open Go

mutual
theorem nmTy_size : ∀ t : Ty, (nmTy t).size = t.size
  | .mk k n s l b => by simp only [nmTy, Ty.size, nmTys_size l]
theorem nmTys_size : ∀ l : List Ty, Ty.sizes (nmTys l) = Ty.sizes l
  | [] => by simp only [nmTys]
  | t :: l => by simp only [nmTys, Ty.sizes, nmTy_size t, nmTys_size l]
end
mutual
theorem nmPat_size (w : Bool) : ∀ t : Pat, (nmPat w t).size = t.size
  | .mk k a s n l b => by simp only [nmPat, Pat.size, nmPats_size w l]
theorem nmPats_size (w : Bool) : ∀ l : List Pat, Pat.sizes (nmPats w l) = Pat.sizes l
  | [] => by simp only [nmPats]
  | t :: l => by simp only [nmPats, Pat.sizes, nmPat_size w t, nmPats_size w l]
end
theorem nmCons_size (w : Bool) : ∀ l : List Con, Con.sizes (nmCons w l) = Con.sizes l
  | [] => by simp only [nmCons]
  | t :: l => by simp only [nmCons, Con.sizes, Con.size, nmCon, nmTy_size, nmCons_size w l]
mutual
theorem nmExp_size (w : Bool) : ∀ t : Exp, (nmExp w t).size = t.size
  | .mk k a s n l lb c cb d db => by simp only [nmExp, Exp.size, nmExps_size w l, nmCases_size w c, nmDecs_size w d]
theorem nmExps_size (w : Bool) : ∀ l : List Exp, Exp.sizes (nmExps w l) = Exp.sizes l
  | [] => by simp only [nmExps]
  | t :: l => by simp only [nmExps, Exp.sizes, nmExp_size w t, nmExps_size w l]
theorem nmCase_size (w : Bool) : ∀ t : Case, (nmCase w t).size = t.size
  | .mk p e => by simp only [nmCase, Case.size, nmPat_size, nmExp_size w e]
theorem nmCases_size (w : Bool) : ∀ l : List Case, Case.sizes (nmCases w l) = Case.sizes l
  | [] => by simp only [nmCases]
  | t :: l => by simp only [nmCases, Case.sizes, nmCase_size w t, nmCases_size w l]
theorem nmDec_size (w : Bool) : ∀ t : Dec, (nmDec w t).size = t.size
  | .mk k a s p l lb c cb f fb => by simp only [nmDec, Dec.size, nmCons_size, nmCases_size w c, nmFuns_size w f]
theorem nmDecs_size (w : Bool) : ∀ l : List Dec, Dec.sizes (nmDecs w l) = Dec.sizes l
  | [] => by simp only [nmDecs]
  | t :: l => by simp only [nmDecs, Dec.sizes, nmDec_size w t, nmDecs_size w l]
theorem nmFun_size (w : Bool) : ∀ t : Fun, (nmFun w t).size = t.size
  | .mk s a c => by simp only [nmFun, Fun.size, nmCase_size w c]
theorem nmFuns_size (w : Bool) : ∀ l : List Fun, Fun.sizes (nmFuns w l) = Fun.sizes l
  | [] => by simp only [nmFuns]
  | t :: l => by simp only [nmFuns, Fun.sizes, nmFun_size w t, nmFuns_size w l]
end
theorem sizes_nm (w : Bool) (L : List Dec) (v : Bool) (M : List Dec) (h : nmDecs w L = nmDecs v M) : Dec.sizes L = Dec.sizes M := by
  rw [← nmDecs_size w L, h, nmDecs_size v M]

end Go.Am

namespace Go.Am
open Go
@[go_sem] theorem fillS_full {l : List AV} {off sz : Nat} {m : List AV} (h : sz = 1) (k : off + 1 ≤ l.length) (r : List (Nat × Nat × Slot)) : fillS l ((off, sz, .full m) :: r) = fillS (l.take off ++ ([.sl m] ++ l.drop (off + 1))) r := by
  subst h
  exact fillS_cons (x := .full m) (v := .sl m) rfl rfl rfl k r
end Go.Am

namespace Go.Proofs.Ytemfpnlpnmglfaa
open Go Go.Am
set_option maxRecDepth 4000

theorem eqBad (a b a' b' : Int) (c c' : Str) : eqS (C.ti T_Bad) (.agg [.int .i64 a, .int .i64 b, .str c]) (.agg [.int .i64 a', .int .i64 b', .str c']) = some (decide (TBad.mk a b c = TBad.mk a' b' c')) := by
  unfold eqS
  simp only [T_Bad_k, T_Bad_flat]
  have e1 : (a == a') = decide (a = a') := by rw [Bool.eq_iff_iff]; simp
  have e2 : (b == b') = decide (b = b') := by rw [Bool.eq_iff_iff]; simp
  have e3 : (c == c') = decide (c = c') := by rw [Bool.eq_iff_iff]; simp
  by_cases h1 : a = a' <;> by_cases h2 : b = b' <;> by_cases h3 : c = c' <;> simp [eqAll, TK.has, AV.eqb, e1, e2, e3, h1, h2, h3]
theorem binBad_eql (a b a' b' : Int) (c c' : Str) : binS (C.ti T_Bad) .eql (.val (.agg [.int .i64 a, .int .i64 b, .str c])) (.val (.agg [.int .i64 a', .int .i64 b', .str c'])) = some (.val (.bool (decide (TBad.mk a b c = TBad.mk a' b' c')))) := by
  unfold binS
  simp only [av_val, eqBad]
  rfl
theorem binBad_neq (a b a' b' : Int) (c c' : Str) : binS (C.ti T_Bad) .neq (.val (.agg [.int .i64 a, .int .i64 b, .str c])) (.val (.agg [.int .i64 a', .int .i64 b', .str c'])) = some (.val (.bool (!decide (TBad.mk a b c = TBad.mk a' b' c')))) := by
  unfold binS
  simp only [av_val, eqBad]
  rfl
@[go_sem] theorem binBad_same (a b : Int) (c : Str) : binS (C.ti T_Bad) .eql (.val (.agg [.int .i64 a, .int .i64 b, .str c])) (.val (.agg [.int .i64 a, .int .i64 b, .str c])) = some (.val (.bool true)) := by
  rw [binBad_eql, decide_eq_true rfl]

def kE1 : Exp := .mk 4 0 [] 0 [.mk 1 0 [] 1 [] true [] true [] true] false [] true [] true
def kP : Pat := .mk 6 0 [120] 0 [.mk 2 0 [121] 0 [] true] false
def kE2 : Exp := .mk 2 4 [78, 105, 108] 0 [] true [] true [] true
def kD : List Dec := [.mk 1 0 [] 0 [] true [.mk kP kE1] false [] true]
theorem k1 : rightN (nodesExp kE1) (deepExp kE1) = ⟨19, 0, []⟩ := by decide +kernel
theorem k2 : rightN (nodesExp kE2) (deepExp kE2) = ⟨8, 4, [78, 105, 108]⟩ := by decide +kernel
theorem k3 : countN (nodesDecs false kD) = 5 := by decide +kernel
theorem k4 : varsPat kP = [[120], [121]] := by decide +kernel
theorem kok1 : ∀ n ∈ nodesExp kE1, n.ok := by
  intro n hn
  simp only [kE1, nodesExp, nodesExps, nodesCases, nodesDecs, List.nil_append, List.append_nil, List.mem_cons, List.not_mem_nil, or_false] at hn
  rcases hn with rfl | rfl <;> simp [TNode.ok, Exp.name, Exp.kids, Exp.n]
theorem kok2 : ∀ n ∈ nodesExp kE2, n.ok := by
  intro n hn
  simp only [kE2, nodesExp, nodesExps, nodesCases, nodesDecs, List.nil_append, List.append_nil, List.mem_cons, List.not_mem_nil, or_false] at hn
  rcases hn with rfl <;> simp [TNode.ok, Exp.name, Exp.kids, Exp.n]

theorem law05_knows_spec (s : St) : Ret (cw (.f F_law05_knows) [] s) s (.bool true) := by
  obtain ⟨x, s1, e1, g1⟩ := tree_Vars_spec kP s (by decide +kernel)
  obtain ⟨s2, e2, g2⟩ := tree_RightExp_spec kE1 s1 (by decide +kernel) kok1
  obtain ⟨s3, e3, g3⟩ := tree_RightExp_spec kE2 s2 (by decide +kernel) kok2
  obtain ⟨s4, e4, g4⟩ := tree_Size_spec kD false s3 (by decide +kernel)
  rw [k1] at e2
  rw [k2] at e3
  rw [k3] at e4
  rw [k4] at g1
  have hx := g1.list?
  have hg : Grew s s4 := ((g1.grew.trans g2).trans g3).trans g4
  simp only [go_sem, Nat.reduceAdd, Nat.reduceLeDiff, Nat.reduceSub, Nat.reduceMul, Nat.reduceEqDiff, Int.reduceEq, Int.reduceLT, Int.reduceLE, Int.reduceAdd, Int.reduceSub, Int.reduceNeg, Int.reduceGT, Int.reduceGE, Int.reduceNe, ne_eq, not_false_eq_true, kD, kP, kE1, kE2, List.map, TBad.enc, TBad.cells, encS_false, Pat.enc, Exp.enc, Dec.enc, Case.enc, Case.cells, Case.encs, Fun.encs] at e1 e2 e3 e4 hx
  rw [law05_knows_eq]
  have q2 : decide (((2 : Nat) : Int) = 2) = true := rfl
  have q5 : decide (((5 : Nat) : Int) = 5) = true := rfl
  have i0 : ixS 1 x (.val (.int .i64 0)) = some (.val (.cp [.str [120]])) := ixS_get (n := 0) (v := .str [120]) hx rfl rfl (by decide)
  have i1 : ixS 1 x (.val (.int .i64 1)) = some (.val (.cp [.str [121]])) := ixS_get (n := 1) (v := .str [121]) hx rfl rfl (by decide)
  simp only [go_sem, Nat.reduceAdd, Nat.reduceLeDiff, Nat.reduceSub, Nat.reduceMul, Nat.reduceEqDiff, Int.reduceEq, Int.reduceLT, Int.reduceLE, Int.reduceAdd, Int.reduceSub, Int.reduceNeg, Int.reduceGT, Int.reduceGE, Int.reduceNe, ne_eq, not_false_eq_true, e1, e2, e3, e4, hx, q2, q5, i0, i1, decide_eq_true (Eq.refl [(120 : UInt8)]), decide_eq_true (Eq.refl [(121 : UInt8)])]
  exact ⟨_, rfl, hg⟩

end Go.Proofs.Ytemfpnlpnmglfaa

namespace Go.Proofs.Ytemfpnlpnmglfaa
open Go Go.Am
set_option maxRecDepth 4000

theorem law05_TreeSizes_spec (L : List Dec) (b : Bool) (s : St) (h : Dec.sizes L < 2^26) (H : ∀ n ∈ nodesDecs false L, n.ok) : Ret (cw (.f F_law05_TreeSizes) [encS b (L.map Dec.enc)] s) s (.bool true) := by
  obtain ⟨s1, e1, g1⟩ := tree_Size_spec L b s h
  obtain ⟨s2, e2, g2⟩ := ref05_Size_spec L b s1 h
  obtain ⟨x3, s3, R3, b3, e3, g3, c3, a3, n3⟩ := tree_Bare_spec L b s2 h
  obtain ⟨x4, s4, R4, b4, e4, g4, c4, a4, n4⟩ := ref05_Bare_spec L h b s3
  have hsz : Dec.sizes R3 < 2^26 := by rw [sizes_nm true R3 false L n3]; exact h
  have e5 := ref05_SameAll_spec true R3 R4 (encS b3 (R3.map Dec.enc)) (encS b4 (R4.map Dec.enc)) (by simp only [go_sem, Nat.reduceAdd, Nat.reduceLeDiff, Nat.reduceSub, Nat.reduceMul, Nat.reduceEqDiff, Int.reduceEq, Int.reduceLT, Int.reduceLE, Int.reduceAdd, Int.reduceSub, Int.reduceNeg, Int.reduceGT, Int.reduceGE, Int.reduceNe, ne_eq, not_false_eq_true]) (by simp only [go_sem, Nat.reduceAdd, Nat.reduceLeDiff, Nat.reduceSub, Nat.reduceMul, Nat.reduceEqDiff, Int.reduceEq, Int.reduceLT, Int.reduceLE, Int.reduceAdd, Int.reduceSub, Int.reduceNeg, Int.reduceGT, Int.reduceGE, Int.reduceNe, ne_eq, not_false_eq_true]) s4 (by omega)
  have he : eqDecs true R3 R4 = true := (eqDecs_iff true R3 R4).2 (n3.trans n4.symm)
  rw [he] at e5
  obtain ⟨s6, e6, g6⟩ := law05_knows_spec s4
  rw [law05_TreeSizes_eq]
  simp only [go_sem, Nat.reduceAdd, Nat.reduceLeDiff, Nat.reduceSub, Nat.reduceMul, Nat.reduceEqDiff, Int.reduceEq, Int.reduceLT, Int.reduceLE, Int.reduceAdd, Int.reduceSub, Int.reduceNeg, Int.reduceGT, Int.reduceGE, Int.reduceNe, ne_eq, not_false_eq_true, e1, e2, e3, e4, avs_cons a3, avs_cons a4, e5, e6, decide_eq_true (Eq.refl ((countN (nodesDecs false L) : Nat) : Int))]
  exact ⟨s6, rfl, (((g1.trans g2).trans g3).trans g4).trans g6⟩

end Go.Proofs.Ytemfpnlpnmglfaa

namespace Go.Proofs.Ytemfpnlpnmglfaa.treeSizes
open Go Go.Am Go.RowKit Go.ChangeShapes Go.WideShapes Go.ChangeAt
set_option maxRecDepth 4000

theorem own : ownKnob Try.prog.godebug = none := by kernel_rfl
theorem under : Try.prog.underlying 22 = some (.slice 50) := by kernel_rfl
theorem under4 : Try.prog.underlying 4 = some .bool := by kernel_rfl
theorem params : Try.f7.params.toList = [22] := by kernel_rfl
theorem small : (22 : Nat) < Try.prog.types.size := of_decide_eq_true (by kernel_rfl)
theorem results : Try.f7.resultTypes = #[4] := by kernel_rfl

theorem contract (H : Type) (enc : TypeId × Value → H) (W : World) (base : Nat) (args : Array Value) (ds gs : List (DataW H)) (before : List MemPlace)
    (hval : ∀ (j : Nat) t v, Try.f7.params[j]? = some t → args[j]? = some v → Value.okWide Try.prog W .any base t v)
    (hW : DataW.Whole enc Try.prog Try.f7.params.toList Rows.treeSizesSpec.vars false W args.toList ds gs before) (hk : Rows.uptoSmall H (ds ++ gs) = true) (hsh : W.ShapedOpen Try.prog) :
    Calls Try.prog 7 args W fun e W' => ∃ v, e = .returned v ∧ Rows.treeSizesSpec.post enc Try.prog Try.f7 false true false false W args v W' := by
  have hW' := hW
  obtain ⟨p, q, hA0, hV, rfl, hfz, hnd⟩ := hW
  have hA := hA0
  rw [params] at hA
  obtain ⟨v0, vs0, d0, ds0, p0, q0, hargs, rfl, rfl, h0, r0⟩ := trodAll_cons hA
  obtain ⟨rfl, rfl, rfl⟩ := trodAll_nil r0
  obtain rfl : args = #[v0] := by cases args; simp_all
  obtain ⟨rfl, rfl⟩ := trodVars_none hV
  have hv0 := arg_slice under (hval 0 22 v0 (by rw [← Array.getElem?_toList, params]; rfl) rfl)
  obtain ⟨n, hn⟩ := h0
  obtain ⟨l, hc, hok⟩ := trod_conv types plain_all n 22 v0.cells.toList (d0, p0) (by decide +kernel) hn
  have hb : Rows.uptoBulkAll ([d0] ++ []) ≤ 1048576 := of_decide_eq_true hk
  simp only [List.append_nil, Rows.uptoBulkAll] at hb
  obtain ⟨L, b, rfl, hsz, hnodes⟩ := dec_decs n d0 l hc (by omega)
  obtain ⟨s1, e1, g1⟩ := law05_TreeSizes_spec L b st0 (by omega) (hnodes false)
  obtain ⟨m, hm⟩ := callw_some.1 e1
  have hvr := hok.vr
  rw [hv0] at hvr
  refine (entry codeOK (by kernel_rfl) hm (globOK hsh) hvr).mono fun e W' ⟨he, hl⟩ => ?_
  subst he
  simp only [List.append_nil] at hW'
  refine ⟨_, rfl, post_left hW' (fun _ _ _ => ?_) (fun sp hsp => ?_) (fun _ => rfl) hl⟩
  · rw [results]; exact trodAll_cons_mk (shut_bool under4 _) trodAll_mk0
  · have hA1 : DataW.TrodAll enc Try.prog W 0 (fun _ => true) true Try.f7.params.toList [v0] [d0] p0 := by simpa using hA0
    exact again (fun t ht => by rw [params] at ht; obtain rfl := List.mem_singleton.1 ht; exact small) hA1 hl (fun p hp => hW'.lt p (by simpa using hp)) sp (by simpa using hsp)

theorem laid_nil (P : Program) (W : World) : laidMet P [] W := ⟨[], rfl, by simp, by simp⟩

set_option maxRecDepth 100000 in
theorem lifted (os : Os) (started : os.Started) (H : Type) (enc : TypeId × Value → H) (F : Stop.Interp) :
    ReturnsInHanded {} Try.checked os 7 .any ((Rows.OpenSpec.upto Rows.treeSizesSpec).preRow enc Try.prog Try.f7 Rows.treeSizesUptoRow.domain false Rows.treeSizesUptoRow.laid) (((Rows.OpenSpec.upto Rows.treeSizesSpec).at F).post enc Try.prog Try.f7 false true false false) := by
  have hx : ∃ places, DataW.whole enc Try.prog ((World.holding Try.prog os ⟨#[], #[], []⟩).forCall (fun _ _ => 0) ⟨#[], #[.slice none 0 0], []⟩).memory Try.f7.params.toList Rows.treeSizesSpec.vars false #[Value.slice none 0 0].toList 8 = some ([.nil], [], places) := ⟨[], by kernel_rfl⟩
  obtain ⟨places, hx⟩ := hx
  refine returnsInHanded_of_row (C := Try.checked) (s := Rows.OpenSpec.upto Rows.treeSizesSpec) own started (by kernel_rfl) Try.func7
    (witness_row_at (enc := enc) (C := Try.checked) false (World.holding Try.prog os ⟨#[], #[], []⟩) #[.slice none 0 0] rfl (by kernel_rfl) (by kernel_rfl) (by kernel_rfl)
      (OpenSpec.preRow_of_cond 8 hx (by kernel_rfl) (fun k hk => by cases hk; kernel_rfl) (by kernel_rfl) (laid_nil _ _))) ?_
  intro W base args ds gs before hval hW _ hk _ _ hsh _
  exact contract H enc W base args ds gs before hval hW (hk _ rfl) hsh

theorem saidUpto : Rows.TreeSizesUptoSaid :=
  OpenClaim.holds_of_cond 7 Try.f7 rfl rfl rfl rfl rfl rfl rfl ⟨rfl, rfl, rfl, rfl, rfl⟩ rfl rfl rfl rfl rfl (by kernel_rfl) Try.func7 (by kernel_rfl)
    (of_decide_eq_true (by kernel_rfl)) (by unfold Func.isWrapper; first | (rw [if_pos (by decide +kernel)]; kernel_rfl) | (rw [if_neg (by decide +kernel)]; exact ⟨rfl, rfl⟩))
    (fun os started H enc _ F => by rw [OpenClaim.pre_eq_preRow]; exact lifted os started H enc F)

end Go.Proofs.Ytemfpnlpnmglfaa.treeSizes

