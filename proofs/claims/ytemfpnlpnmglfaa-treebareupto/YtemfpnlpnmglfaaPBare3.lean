/- What is wrong with a tree without its places: the same, at place 0 (plain). -/
import Derived.Test.YtemfpnlpnmglfaaPBare
import Derived.Test.YtemfpnlpnmglfaaPTree
set_option linter.unusedVariables false
set_option linter.unusedSimpArgs false
namespace Go.Am
open Go

def nmNode (w : Bool) : TNode → TNode
  | .dec i d => .dec i (nmDec w d)
  | .exp e => .exp (nmExp w e)
  | .pat p => .pat (nmPat w p)
  | .ty t a => .ty (nmTy t) (nmAt w a)
  | .fn f => .fn (nmFun w f)
  | .con c => .con (nmCon w c)

theorem nmTys_len : ∀ l : List Ty, (nmTys l).length = l.length
  | [] => rfl
  | t :: l => by simp only [nmTys, List.length_cons, nmTys_len l]
theorem nmPats_len (w : Bool) : ∀ l : List Pat, (nmPats w l).length = l.length
  | [] => by simp only [nmPats]
  | t :: l => by simp only [nmPats, List.length_cons, nmPats_len w l]
theorem nmCons_len (w : Bool) : ∀ l : List Con, (nmCons w l).length = l.length
  | [] => by simp only [nmCons]
  | t :: l => by simp only [nmCons, List.length_cons, nmCons_len w l]
theorem nmExps_len (w : Bool) : ∀ l : List Exp, (nmExps w l).length = l.length
  | [] => by simp only [nmExps]
  | t :: l => by simp only [nmExps, List.length_cons, nmExps_len w l]
theorem nmCases_len (w : Bool) : ∀ l : List Case, (nmCases w l).length = l.length
  | [] => by simp only [nmCases]
  | t :: l => by simp only [nmCases, List.length_cons, nmCases_len w l]
theorem nmDecs_len (w : Bool) : ∀ l : List Dec, (nmDecs w l).length = l.length
  | [] => by simp only [nmDecs]
  | t :: l => by simp only [nmDecs, List.length_cons, nmDecs_len w l]
theorem nmFuns_len (w : Bool) : ∀ l : List Fun, (nmFuns w l).length = l.length
  | [] => by simp only [nmFuns]
  | t :: l => by simp only [nmFuns, List.length_cons, nmFuns_len w l]

mutual
theorem nodes_nmTy (w : Bool) (a : Int) : ∀ t : Ty, nodesTy (nmAt w a) (nmTy t) = (nodesTy a t).map (nmNode w)
  | .mk k n s l b => by simp only [nmTy, nodesTy, List.map_cons, nmNode, nodes_nmTys w a l]
theorem nodes_nmTys (w : Bool) (a : Int) : ∀ l : List Ty, nodesTys (nmAt w a) (nmTys l) = (nodesTys a l).map (nmNode w)
  | [] => by simp only [nmTys, nodesTys, List.map_nil]
  | t :: l => by simp only [nmTys, nodesTys, List.map_append, nodes_nmTy w a t, nodes_nmTys w a l]
end
mutual
theorem nodes_nmPat (w : Bool) : ∀ t : Pat, nodesPat (nmPat w t) = (nodesPat t).map (nmNode w)
  | .mk k a s n l b => by simp only [nmPat, nodesPat, List.map_cons, nmNode, nodes_nmPats w l]
theorem nodes_nmPats (w : Bool) : ∀ l : List Pat, nodesPats (nmPats w l) = (nodesPats l).map (nmNode w)
  | [] => by simp only [nmPats, nodesPats, List.map_nil]
  | t :: l => by simp only [nmPats, nodesPats, List.map_append, nodes_nmPat w t, nodes_nmPats w l]
end
theorem nodes_nmCon (w : Bool) (c : Con) : nodesCon (nmCon w c) = (nodesCon c).map (nmNode w) := by
  obtain ⟨s, a, h, t⟩ := c
  cases h <;> simp only [nodesCon, nmCon, cond_true, cond_false, List.map_cons, List.map_nil, nmNode, nodes_nmTy]
theorem nodes_nmCons (w : Bool) : ∀ l : List Con, nodesCons (nmCons w l) = (nodesCons l).map (nmNode w)
  | [] => by simp only [nmCons, nodesCons, List.map_nil]
  | t :: l => by simp only [nmCons, nodesCons, List.map_append, nodes_nmCon w t, nodes_nmCons w l]
mutual
theorem nodes_nmExp (w : Bool) : ∀ t : Exp, nodesExp (nmExp w t) = (nodesExp t).map (nmNode w)
  | .mk k a s n l lb c cb d db => by simp only [nmExp, nodesExp, List.map_cons, List.map_append, nmNode, nodes_nmExps w l, nodes_nmCases w c, nodes_nmDecs w true d]
theorem nodes_nmExps (w : Bool) : ∀ l : List Exp, nodesExps (nmExps w l) = (nodesExps l).map (nmNode w)
  | [] => by simp only [nmExps, nodesExps, List.map_nil]
  | t :: l => by simp only [nmExps, nodesExps, List.map_append, nodes_nmExp w t, nodes_nmExps w l]
theorem nodes_nmCase (w : Bool) : ∀ t : Case, nodesCase (nmCase w t) = (nodesCase t).map (nmNode w)
  | .mk p e => by simp only [nmCase, nodesCase, List.map_append, nodes_nmPat, nodes_nmExp w e]
theorem nodes_nmCases (w : Bool) : ∀ l : List Case, nodesCases (nmCases w l) = (nodesCases l).map (nmNode w)
  | [] => by simp only [nmCases, nodesCases, List.map_nil]
  | t :: l => by simp only [nmCases, nodesCases, List.map_append, nodes_nmCase w t, nodes_nmCases w l]
theorem nodes_nmDec (w i : Bool) : ∀ t : Dec, nodesDec i (nmDec w t) = (nodesDec i t).map (nmNode w)
  | .mk k a s p l lb c cb f fb => by simp only [nmDec, nodesDec, List.map_cons, List.map_append, nmNode, nodes_nmCons, nodes_nmCases w c, nodes_nmFuns w f]
theorem nodes_nmDecs (w i : Bool) : ∀ l : List Dec, nodesDecs i (nmDecs w l) = (nodesDecs i l).map (nmNode w)
  | [] => by simp only [nmDecs, nodesDecs, List.map_nil]
  | t :: l => by simp only [nmDecs, nodesDecs, List.map_append, nodes_nmDec w i t, nodes_nmDecs w i l]
theorem nodes_nmFun (w : Bool) : ∀ t : Fun, nodesFun (nmFun w t) = (nodesFun t).map (nmNode w)
  | .mk s a c => by simp only [nmFun, nodesFun, List.map_cons, nmNode, nodes_nmCase w c]
theorem nodes_nmFuns (w : Bool) : ∀ l : List Fun, nodesFuns (nmFuns w l) = (nodesFuns l).map (nmNode w)
  | [] => by simp only [nmFuns, nodesFuns, List.map_nil]
  | t :: l => by simp only [nmFuns, nodesFuns, List.map_append, nodes_nmFun w t, nodes_nmFuns w l]
end

theorem isNode_nm (w : Bool) (n : TNode) : (nmNode w n).isNode = n.isNode := by cases n <;> rfl
theorem wrongTy_nm (t : Ty) : wrongTyB (nmTy t) = wrongTyB t := by
  obtain ⟨k, n, s, l, b⟩ := t
  simp only [wrongTyB, nmTy, Ty.kind, Ty.n, Ty.name, Ty.args, nmTys_len]
theorem wrongExp_congr {e f : Exp} (h1 : e.kind = f.kind) (h2 : e.name = f.name) (h3 : e.n = f.n) (h4 : e.kids.length = f.kids.length) (h5 : e.cases.length = f.cases.length) (h6 : e.decs.length = f.decs.length) : wrongExpB e = wrongExpB f := by
  unfold wrongExpB
  rw [h1, h2, h3, h4, h5, h6]
theorem wrongPat_congr {e f : Pat} (h1 : e.kind = f.kind) (h2 : e.name = f.name) (h3 : e.n = f.n) (h4 : e.kids.length = f.kids.length) : wrongPatB e = wrongPatB f := by
  unfold wrongPatB
  rw [h1, h2, h3, h4]
theorem wrongCon_congr {e f : Con} (h1 : e.name = f.name) (h2 : e.has = f.has) (h3 : e.arg.kind = f.arg.kind) (h4 : e.arg.n = f.arg.n) (h5 : e.arg.name = f.arg.name) (h6 : e.arg.args.length = f.arg.args.length) : wrongConB e = wrongConB f := by
  unfold wrongConB
  rw [h1, h2, h3, h4, h5, h6]
theorem wrong_nm (w : Bool) (n : TNode) : (nmNode w n).wrong = n.wrong := by
  cases n with
  | dec i d => obtain ⟨k, a, s, p, l, lb, c, cb, f, fb⟩ := d; simp only [nmNode, nmDec, TNode.wrong, wrongDecB, Dec.kind, Dec.name, Dec.params, Dec.cons, Dec.case, Dec.funs, nmCons_len, nmCases_len, nmFuns_len]
  | exp e => obtain ⟨k, a, s, n, l, lb, c, cb, d, db⟩ := e; simp only [nmNode, nmExp, TNode.wrong]; rw [wrongExp_congr (e := .mk k (nmAt w a) s n (nmExps w l) true (nmCases w c) true (nmDecs w d) true) (f := .mk k a s n l lb c cb d db) rfl rfl rfl (nmExps_len w l) (nmCases_len w c) (nmDecs_len w d)]; rfl
  | pat p => obtain ⟨k, a, s, n, l, b⟩ := p; simp only [nmNode, nmPat, TNode.wrong]; rw [wrongPat_congr (e := .mk k (nmAt w a) s n (nmPats w l) true) (f := .mk k a s n l b) rfl rfl rfl (nmPats_len w l)]; rfl
  | ty t a => simp only [nmNode, TNode.wrong, wrongTy_nm]; obtain ⟨k, n, s, l, b⟩ := t; rfl
  | fn f => obtain ⟨s, a, c⟩ := f; simp only [nmNode, nmFun, TNode.wrong, Fun.name]
  | con c => obtain ⟨s, a, h, t⟩ := c; obtain ⟨k, n, s', l, b⟩ := t; simp only [nmNode, nmCon, nmTy, TNode.wrong]; rw [wrongCon_congr (e := ⟨s, nmAt w a, h, .mk k n s' (nmTys l) true⟩) (f := ⟨s, a, h, .mk k n s' l b⟩) rfl rfl rfl rfl rfl (nmTys_len l)]
theorem at_nm (w : Bool) (n : TNode) : (nmNode w n).at_ = nmAt w n.at_ := by
  cases n with
  | dec i d => obtain ⟨k, a, s, p, l, lb, c, cb, f, fb⟩ := d; simp only [nmNode, nmDec, TNode.at_, Dec.at_]
  | exp e => obtain ⟨k, a, s, n, l, lb, c, cb, d, db⟩ := e; simp only [nmNode, nmExp, TNode.at_, Exp.at_]
  | pat p => obtain ⟨k, a, s, n, l, b⟩ := p; simp only [nmNode, nmPat, TNode.at_, Pat.at_]
  | ty t a => rfl
  | fn f => obtain ⟨s, a, c⟩ := f; simp only [nmNode, nmFun, TNode.at_, Fun.at_]
  | con c => rfl

/-- an error without its place -/
def TBad.bare (b : TBad) : TBad := ⟨b.kind, 0, b.name⟩
theorem bad_nm (w : Bool) (n : TNode) : (nmNode w n).bad = bif w then n.bad else n.bad.bare := by
  unfold TNode.bad
  rw [wrong_nm, at_nm]
  cases w
  · simp only [cond_false, nmAt, mkBad, TBad.bare]
    cases decide (n.wrong.1 = 0) <;> rfl
  · rfl
theorem firstBad_nm (w : Bool) : ∀ l : List TNode, firstBad (l.map (nmNode w)) = bif w then firstBad l else (firstBad l).bare
  | [] => by cases w <;> rfl
  | n :: l => by
    simp only [List.map_cons, firstBad, bad_nm, firstBad_nm w l]
    cases w
    · simp only [cond_false]
      by_cases h : n.bad.kind = 0
      · rw [decide_eq_true (show (TBad.bare n.bad).kind = 0 from h), decide_eq_true h]; rfl
      · rw [decide_eq_false (show ¬ (TBad.bare n.bad).kind = 0 from h), decide_eq_false h]; rfl
    · simp only [cond_true]
theorem countN_nm (w : Bool) (l : List TNode) : countN (l.map (nmNode w)) = countN l := by
  unfold countN
  rw [List.filter_map, List.length_map]
  congr 2
  funext n
  exact isNode_nm w n

end Go.Am
