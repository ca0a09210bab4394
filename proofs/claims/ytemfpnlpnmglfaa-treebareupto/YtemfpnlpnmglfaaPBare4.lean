/- Trees without their places: as deep, and the same again (plain). -/
import Derived.Test.YtemfpnlpnmglfaaPBare3
import Derived.Test.YtemfpnlpnmglfaaPBare2
set_option linter.unusedVariables false
set_option linter.unusedSimpArgs false
namespace Go.Am
open Go

mutual
theorem deep_nmTy : ∀ t : Ty, deepTy (nmTy t) = deepTy t
  | .mk k n s l b => by simp only [nmTy, deepTy, deep_nmTys l]
theorem deep_nmTys : ∀ (l : List Ty) (n : Int), deepTys (nmTys l) n = deepTys l n
  | [], n => by simp only [nmTys]
  | t :: l, n => by simp only [nmTys, deepTys, deep_nmTy t, deep_nmTys l]
end
mutual
theorem deep_nmPat (w : Bool) : ∀ t : Pat, deepPat (nmPat w t) = deepPat t
  | .mk k a s n l b => by simp only [nmPat, deepPat, deep_nmPats w l]
theorem deep_nmPats (w : Bool) : ∀ (l : List Pat) (n : Int), deepPats (nmPats w l) n = deepPats l n
  | [], n => by simp only [nmPats]
  | t :: l, n => by simp only [nmPats, deepPats, deep_nmPat w t, deep_nmPats w l]
end
theorem deep_nmCons (w : Bool) : ∀ (l : List Con) (n : Int), deepCons (nmCons w l) n = deepCons l n
  | [], n => by simp only [nmCons]
  | t :: l, n => by simp only [nmCons, deepCons, nmCon, deep_nmTy, deep_nmCons w l]
mutual
theorem deep_nmExp (w : Bool) : ∀ t : Exp, deepExp (nmExp w t) = deepExp t
  | .mk k a s n l lb c cb d db => by simp only [nmExp, deepExp, deep_nmExps w l, deep_nmCases w c, deep_nmDecs w d]
theorem deep_nmExps (w : Bool) : ∀ (l : List Exp) (n : Int), deepExps (nmExps w l) n = deepExps l n
  | [], n => by simp only [nmExps]
  | t :: l, n => by simp only [nmExps, deepExps, deep_nmExp w t, deep_nmExps w l]
theorem deep_nmCases (w : Bool) : ∀ (l : List Case) (n : Int), deepCases (nmCases w l) n = deepCases l n
  | [], n => by simp only [nmCases]
  | .mk p e :: l, n => by simp only [nmCases, nmCase, deepCases, deep_nmPat, deep_nmExp w e, deep_nmCases w l]
theorem deep_nmDecs (w : Bool) : ∀ (l : List Dec) (n : Int), deepDecs (nmDecs w l) n = deepDecs l n
  | [], n => by simp only [nmDecs]
  | .mk k a s p l lb c cb f fb :: r, n => by simp only [nmDecs, nmDec, deepDecs, deep_nmCons, deep_nmCases w c, deep_nmFuns w f, deep_nmDecs w r]
theorem deep_nmFuns (w : Bool) : ∀ (l : List Fun) (n : Int), deepFuns (nmFuns w l) n = deepFuns l n
  | [], n => by simp only [nmFuns]
  | .mk s a c :: l, n => by simp only [nmFuns, nmFun, deepFuns, deep_nmCase w c, deep_nmFuns w l]
theorem deep_nmCase (w : Bool) : ∀ c : Case, deepCase (nmCase w c) = deepCase c
  | .mk p e => by simp only [nmCase, deepCase, deep_nmPat, deep_nmExp w e]
end

mutual
theorem nm_nmTy : ∀ t : Ty, nmTy (nmTy t) = nmTy t
  | .mk k n s l b => by simp only [nmTy, nm_nmTys l]
theorem nm_nmTys : ∀ l : List Ty, nmTys (nmTys l) = nmTys l
  | [] => by simp only [nmTys]
  | t :: l => by simp only [nmTys, nm_nmTy t, nm_nmTys l]
end
mutual
theorem nm_nmPat (w : Bool) : ∀ t : Pat, nmPat false (nmPat w t) = nmPat false t
  | .mk k a s n l b => by simp only [nmPat, nm_nmPats w l, nmAt, cond_false]
theorem nm_nmPats (w : Bool) : ∀ l : List Pat, nmPats false (nmPats w l) = nmPats false l
  | [] => by simp only [nmPats]
  | t :: l => by simp only [nmPats, nm_nmPat w t, nm_nmPats w l]
end
theorem nm_nmCons (w : Bool) : ∀ l : List Con, nmCons false (nmCons w l) = nmCons false l
  | [] => by simp only [nmCons]
  | t :: l => by simp only [nmCons, nmCon, nm_nmTy, nm_nmCons w l, nmAt, cond_false]
mutual
theorem nm_nmExp (w : Bool) : ∀ t : Exp, nmExp false (nmExp w t) = nmExp false t
  | .mk k a s n l lb c cb d db => by simp only [nmExp, nm_nmExps w l, nm_nmCases w c, nm_nmDecs w d, nmAt, cond_false]
theorem nm_nmExps (w : Bool) : ∀ l : List Exp, nmExps false (nmExps w l) = nmExps false l
  | [] => by simp only [nmExps]
  | t :: l => by simp only [nmExps, nm_nmExp w t, nm_nmExps w l]
theorem nm_nmCase (w : Bool) : ∀ t : Case, nmCase false (nmCase w t) = nmCase false t
  | .mk p e => by simp only [nmCase, nm_nmPat, nm_nmExp w e]
theorem nm_nmCases (w : Bool) : ∀ l : List Case, nmCases false (nmCases w l) = nmCases false l
  | [] => by simp only [nmCases]
  | t :: l => by simp only [nmCases, nm_nmCase w t, nm_nmCases w l]
theorem nm_nmDec (w : Bool) : ∀ t : Dec, nmDec false (nmDec w t) = nmDec false t
  | .mk k a s p l lb c cb f fb => by simp only [nmDec, nm_nmCons, nm_nmCases w c, nm_nmFuns w f, nmAt, cond_false]
theorem nm_nmDecs (w : Bool) : ∀ l : List Dec, nmDecs false (nmDecs w l) = nmDecs false l
  | [] => by simp only [nmDecs]
  | t :: l => by simp only [nmDecs, nm_nmDec w t, nm_nmDecs w l]
theorem nm_nmFun (w : Bool) : ∀ t : Fun, nmFun false (nmFun w t) = nmFun false t
  | .mk s a c => by simp only [nmFun, nm_nmCase w c, nmAt, cond_false]
theorem nm_nmFuns (w : Bool) : ∀ l : List Fun, nmFuns false (nmFuns w l) = nmFuns false l
  | [] => by simp only [nmFuns]
  | t :: l => by simp only [nmFuns, nm_nmFun w t, nm_nmFuns w l]
end

theorem bare_nodes {R L : List Dec} (h : nmDecs true R = nmDecs false L) : (nodesDecs false R).map (nmNode true) = (nodesDecs false L).map (nmNode false) := by
  rw [← nodes_nmDecs, h, nodes_nmDecs]
theorem bare_count {R L : List Dec} (h : nmDecs true R = nmDecs false L) : countN (nodesDecs false R) = countN (nodesDecs false L) := by
  rw [← countN_nm true, bare_nodes h, countN_nm]
theorem bare_right {R L : List Dec} (h : nmDecs true R = nmDecs false L) : rightN (nodesDecs false R) (deepDecs R 0) = (rightN (nodesDecs false L) (deepDecs L 0)).bare := by
  have h1 : deepDecs R 0 = deepDecs L 0 := by rw [← deep_nmDecs true R, h, deep_nmDecs]
  have h2 : firstBad (nodesDecs false R) = (firstBad (nodesDecs false L)).bare := by
    have h3 := firstBad_nm true (nodesDecs false R)
    rw [bare_nodes h, firstBad_nm] at h3
    exact h3.symm
  unfold rightN
  rw [bare_count h, h1, h2]
  cases decide (countN (nodesDecs false L) > 8192) <;> cases decide (deepDecs L 0 > 100) <;> rfl
theorem bare_same {R L : List Dec} (h : nmDecs true R = nmDecs false L) : nmDecs false R = nmDecs false L := by
  rw [← nm_nmDecs true R, h, nm_nmDecs]
theorem ok_nm (w : Bool) (n : TNode) : (nmNode w n).ok ↔ n.ok := by
  cases n with
  | dec i d => obtain ⟨k, a, s, p, l, lb, c, cb, f, fb⟩ := d; simp only [nmNode, nmDec, TNode.ok, Dec.name]
  | exp e => obtain ⟨k, a, s, n, l, lb, c, cb, d, db⟩ := e; simp only [nmNode, nmExp, TNode.ok, Exp.name, Exp.kids, Exp.n, nmExps_len]
  | pat p => obtain ⟨k, a, s, n, l, b⟩ := p; simp only [nmNode, nmPat, TNode.ok, Pat.name, Pat.n]
  | ty t a => obtain ⟨k, n, s, l, b⟩ := t; simp only [nmNode, nmTy, TNode.ok, Ty.name]
  | fn f => obtain ⟨s, a, c⟩ := f; simp only [nmNode, nmFun, TNode.ok, Fun.name]
  | con c => obtain ⟨s, a, h, t⟩ := c; simp only [nmNode, nmCon, TNode.ok]
theorem bare_ok {R L : List Dec} (h : nmDecs true R = nmDecs false L) (H : ∀ n ∈ nodesDecs false L, n.ok) : ∀ n ∈ nodesDecs false R, n.ok := fun n hn => by
  have h1 : nmNode true n ∈ (nodesDecs false L).map (nmNode false) := by rw [← bare_nodes h]; exact List.mem_map.2 ⟨n, hn, rfl⟩
  obtain ⟨m, hm, e⟩ := List.mem_map.1 h1
  exact (ok_nm true n).1 (by rw [← e]; exact (ok_nm false m).2 (H m hm))

end Go.Am
