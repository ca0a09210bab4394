/- Trees without their places, and without the difference between no slice and an empty one (plain). -/
import Derived.Test.YtemfpnlpnmglfaaPSame
set_option linter.unusedVariables false
set_option linter.unusedSimpArgs false
namespace Go.Am
open Go

/- a tree's norm; 'w': the places stay -/
mutual
def nmTy : Ty → Ty
  | .mk k n s l _ => .mk k n s (nmTys l) true
def nmTys : List Ty → List Ty
  | [] => []
  | t :: l => nmTy t :: nmTys l
end
def nmAt (w : Bool) (a : Int) : Int := bif w then a else 0
mutual
def nmPat (w : Bool) : Pat → Pat
  | .mk k a s n l _ => .mk k (nmAt w a) s n (nmPats w l) true
def nmPats (w : Bool) : List Pat → List Pat
  | [] => []
  | t :: l => nmPat w t :: nmPats w l
end
def nmCon (w : Bool) (c : Con) : Con := ⟨c.name, nmAt w c.at_, c.has, nmTy c.arg⟩
def nmCons (w : Bool) : List Con → List Con
  | [] => []
  | t :: l => nmCon w t :: nmCons w l
mutual
def nmExp (w : Bool) : Exp → Exp
  | .mk k a s n l _ c _ d _ => .mk k (nmAt w a) s n (nmExps w l) true (nmCases w c) true (nmDecs w d) true
def nmExps (w : Bool) : List Exp → List Exp
  | [] => []
  | t :: l => nmExp w t :: nmExps w l
def nmCase (w : Bool) : Case → Case
  | .mk p e => .mk (nmPat w p) (nmExp w e)
def nmCases (w : Bool) : List Case → List Case
  | [] => []
  | t :: l => nmCase w t :: nmCases w l
def nmDec (w : Bool) : Dec → Dec
  | .mk k a s p l _ c _ f _ => .mk k (nmAt w a) s p (nmCons w l) true (nmCases w c) true (nmFuns w f) true
def nmDecs (w : Bool) : List Dec → List Dec
  | [] => []
  | t :: l => nmDec w t :: nmDecs w l
def nmFun (w : Bool) : Fun → Fun
  | .mk s a c => .mk s (nmAt w a) (nmCase w c)
def nmFuns (w : Bool) : List Fun → List Fun
  | [] => []
  | t :: l => nmFun w t :: nmFuns w l
end

theorem atB_iff (w : Bool) (a b : Int) : atB w a b = true ↔ nmAt w a = nmAt w b := by cases w <;> simp [atB, nmAt]

mutual
theorem eqTy_iff : ∀ t u : Ty, eqTy t u = true ↔ nmTy t = nmTy u
  | .mk k n s l b, .mk k' n' s' l' b' => by simp only [eqTy, nmTy, Ty.mk.injEq, Bool.and_eq_true, decide_eq_true_eq, eqTys_iff l l', and_true, and_assoc]
theorem eqTys_iff : ∀ l m : List Ty, eqTys l m = true ↔ nmTys l = nmTys m
  | [], [] => by simp [eqTys, nmTys]
  | [], _ :: _ => by simp [eqTys, nmTys]
  | _ :: _, [] => by simp [eqTys, nmTys]
  | t :: l, u :: m => by simp only [eqTys, nmTys, List.cons.injEq, Bool.and_eq_true, eqTy_iff t u, eqTys_iff l m]
end
mutual
theorem eqPat_iff (w : Bool) : ∀ t u : Pat, eqPat w t u = true ↔ nmPat w t = nmPat w u
  | .mk k a s n l b, .mk k' a' s' n' l' b' => by
    simp only [eqPat, nmPat, Pat.mk.injEq, Bool.and_eq_true, decide_eq_true_eq, eqPats_iff w l l', atB_iff, and_true]
    constructor <;> simp +contextual
theorem eqPats_iff (w : Bool) : ∀ l m : List Pat, eqPats w l m = true ↔ nmPats w l = nmPats w m
  | [], [] => by simp [eqPats, nmPats]
  | [], _ :: _ => by simp [eqPats, nmPats]
  | _ :: _, [] => by simp [eqPats, nmPats]
  | t :: l, u :: m => by simp only [eqPats, nmPats, List.cons.injEq, Bool.and_eq_true, eqPat_iff w t u, eqPats_iff w l m]
end
theorem eqCon_iff (w : Bool) (c d : Con) : eqCon w c d = true ↔ nmCon w c = nmCon w d := by
  simp only [eqCon, nmCon, Con.mk.injEq, Bool.and_eq_true, decide_eq_true_eq, eqTy_iff, atB_iff]
  constructor <;> simp +contextual
theorem eqCons_iff (w : Bool) : ∀ l m : List Con, eqCons w l m = true ↔ nmCons w l = nmCons w m
  | [], [] => by simp [eqCons, nmCons]
  | [], _ :: _ => by simp [eqCons, nmCons]
  | _ :: _, [] => by simp [eqCons, nmCons]
  | t :: l, u :: m => by simp only [eqCons, nmCons, List.cons.injEq, Bool.and_eq_true, eqCon_iff w t u, eqCons_iff w l m]
mutual
theorem eqExp_iff (w : Bool) : ∀ t u : Exp, eqExp w t u = true ↔ nmExp w t = nmExp w u
  | .mk k a s n l lb c cb d db, .mk k' a' s' n' l' lb' c' cb' d' db' => by
    simp only [eqExp, nmExp, Exp.mk.injEq, Bool.and_eq_true, decide_eq_true_eq, eqExps_iff w l l', eqCases_iff w c c', eqDecs_iff w d d', atB_iff, and_true]
    constructor <;> simp +contextual
theorem eqExps_iff (w : Bool) : ∀ l m : List Exp, eqExps w l m = true ↔ nmExps w l = nmExps w m
  | [], [] => by simp [eqExps, nmExps]
  | [], _ :: _ => by simp [eqExps, nmExps]
  | _ :: _, [] => by simp [eqExps, nmExps]
  | t :: l, u :: m => by simp only [eqExps, nmExps, List.cons.injEq, Bool.and_eq_true, eqExp_iff w t u, eqExps_iff w l m]
theorem eqCase_iff (w : Bool) : ∀ t u : Case, eqCase w t u = true ↔ nmCase w t = nmCase w u
  | .mk p e, .mk p' e' => by simp only [eqCase, nmCase, Case.mk.injEq, Bool.and_eq_true, eqPat_iff w p p', eqExp_iff w e e']
theorem eqCases_iff (w : Bool) : ∀ l m : List Case, eqCases w l m = true ↔ nmCases w l = nmCases w m
  | [], [] => by simp [eqCases, nmCases]
  | [], _ :: _ => by simp [eqCases, nmCases]
  | _ :: _, [] => by simp [eqCases, nmCases]
  | t :: l, u :: m => by simp only [eqCases, nmCases, List.cons.injEq, Bool.and_eq_true, eqCase_iff w t u, eqCases_iff w l m]
theorem eqDec_iff (w : Bool) : ∀ t u : Dec, eqDec w t u = true ↔ nmDec w t = nmDec w u
  | .mk k a s p l lb c cb f fb, .mk k' a' s' p' l' lb' c' cb' f' fb' => by
    simp only [eqDec, nmDec, Dec.mk.injEq, Bool.and_eq_true, decide_eq_true_eq, eqCons_iff w l l', eqCases_iff w c c', eqFuns_iff w f f', atB_iff, and_true]
    constructor <;> simp +contextual
theorem eqDecs_iff (w : Bool) : ∀ l m : List Dec, eqDecs w l m = true ↔ nmDecs w l = nmDecs w m
  | [], [] => by simp [eqDecs, nmDecs]
  | [], _ :: _ => by simp [eqDecs, nmDecs]
  | _ :: _, [] => by simp [eqDecs, nmDecs]
  | t :: l, u :: m => by simp only [eqDecs, nmDecs, List.cons.injEq, Bool.and_eq_true, eqDec_iff w t u, eqDecs_iff w l m]
theorem eqFun_iff (w : Bool) : ∀ t u : Fun, eqFun w t u = true ↔ nmFun w t = nmFun w u
  | .mk s a c, .mk s' a' c' => by
    simp only [eqFun, nmFun, Fun.mk.injEq, Bool.and_eq_true, decide_eq_true_eq, eqCase_iff w c c', atB_iff]
    constructor <;> simp +contextual
theorem eqFuns_iff (w : Bool) : ∀ l m : List Fun, eqFuns w l m = true ↔ nmFuns w l = nmFuns w m
  | [], [] => by simp [eqFuns, nmFuns]
  | [], _ :: _ => by simp [eqFuns, nmFuns]
  | _ :: _, [] => by simp [eqFuns, nmFuns]
  | t :: l, u :: m => by simp only [eqFuns, nmFuns, List.cons.injEq, Bool.and_eq_true, eqFun_iff w t u, eqFuns_iff w l m]
end

end Go.Am
