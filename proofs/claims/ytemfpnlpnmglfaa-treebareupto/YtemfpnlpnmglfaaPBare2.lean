/- Trees without their places are as big (plain). -/
import Derived.Test.YtemfpnlpnmglfaaPBare
set_option linter.unusedVariables false
set_option linter.unusedSimpArgs false
namespace Go.Am
open Go

mutual
theorem nmTy_size : ∀ t : Ty, (nmTy t).size = t.size
  | .mk k n s l b => by simp only [nmTy, Ty.size, nmTys_size l]
theorem nmTys_size : ∀ l : List Ty, Ty.sizes (nmTys l) = Ty.sizes l
  | [] => by simp only [nmTys]
  | t :: l => by simp only [nmTys, Ty.sizes, nmTy_size t, nmTys_size l]
end
mutual
theorem nmPat_size (w : Bool) : ∀ t : Pat, (nmPat w t).size = t.size
  | .mk k a s n l b => by simp only [nmPat, Pat.size, nmPats_size w l]
theorem nmPats_size (w : Bool) : ∀ l : List Pat, Pat.sizes (nmPats w l) = Pat.sizes l
  | [] => by simp only [nmPats]
  | t :: l => by simp only [nmPats, Pat.sizes, nmPat_size w t, nmPats_size w l]
end
theorem nmCons_size (w : Bool) : ∀ l : List Con, Con.sizes (nmCons w l) = Con.sizes l
  | [] => by simp only [nmCons]
  | t :: l => by simp only [nmCons, Con.sizes, Con.size, nmCon, nmTy_size, nmCons_size w l]
mutual
theorem nmExp_size (w : Bool) : ∀ t : Exp, (nmExp w t).size = t.size
  | .mk k a s n l lb c cb d db => by simp only [nmExp, Exp.size, nmExps_size w l, nmCases_size w c, nmDecs_size w d]
theorem nmExps_size (w : Bool) : ∀ l : List Exp, Exp.sizes (nmExps w l) = Exp.sizes l
  | [] => by simp only [nmExps]
  | t :: l => by simp only [nmExps, Exp.sizes, nmExp_size w t, nmExps_size w l]
theorem nmCase_size (w : Bool) : ∀ t : Case, (nmCase w t).size = t.size
  | .mk p e => by simp only [nmCase, Case.size, nmPat_size, nmExp_size w e]
theorem nmCases_size (w : Bool) : ∀ l : List Case, Case.sizes (nmCases w l) = Case.sizes l
  | [] => by simp only [nmCases]
  | t :: l => by simp only [nmCases, Case.sizes, nmCase_size w t, nmCases_size w l]
theorem nmDec_size (w : Bool) : ∀ t : Dec, (nmDec w t).size = t.size
  | .mk k a s p l lb c cb f fb => by simp only [nmDec, Dec.size, nmCons_size, nmCases_size w c, nmFuns_size w f]
theorem nmDecs_size (w : Bool) : ∀ l : List Dec, Dec.sizes (nmDecs w l) = Dec.sizes l
  | [] => by simp only [nmDecs]
  | t :: l => by simp only [nmDecs, Dec.sizes, nmDec_size w t, nmDecs_size w l]
theorem nmFun_size (w : Bool) : ∀ t : Fun, (nmFun w t).size = t.size
  | .mk s a c => by simp only [nmFun, Fun.size, nmCase_size w c]
theorem nmFuns_size (w : Bool) : ∀ l : List Fun, Fun.sizes (nmFuns w l) = Fun.sizes l
  | [] => by simp only [nmFuns]
  | t :: l => by simp only [nmFuns, Fun.sizes, nmFun_size w t, nmFuns_size w l]
end
theorem sizes_nm (w : Bool) (L : List Dec) (v : Bool) (M : List Dec) (h : nmDecs w L = nmDecs v M) : Dec.sizes L = Dec.sizes M := by
  rw [← nmDecs_size w L, h, nmDecs_size v M]

end Go.Am
