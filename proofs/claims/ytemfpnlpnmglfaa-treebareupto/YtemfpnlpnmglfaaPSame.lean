/- When two trees are the same (plain); 'w': the places count too. -/
import Derived.Test.YtemfpnlpnmglfaaT1
set_option linter.unusedVariables false
set_option linter.unusedSimpArgs false
namespace Go.Am
open Go

mutual
def eqTy : Ty → Ty → Bool
  | .mk k n s l _, .mk k' n' s' l' _ => decide (k = k') && decide (n = n') && decide (s = s') && eqTys l l'
def eqTys : List Ty → List Ty → Bool
  | [], [] => true
  | t :: l, u :: m => eqTy t u && eqTys l m
  | _, _ => false
end
def atB (w : Bool) (a b : Int) : Bool := !w || decide (a = b)
mutual
def eqPat (w : Bool) : Pat → Pat → Bool
  | .mk k a s n l _, .mk k' a' s' n' l' _ => decide (k = k') && decide (n = n') && decide (s = s') && atB w a a' && eqPats w l l'
def eqPats (w : Bool) : List Pat → List Pat → Bool
  | [], [] => true
  | t :: l, u :: m => eqPat w t u && eqPats w l m
  | _, _ => false
end
def eqCon (w : Bool) (c d : Con) : Bool := decide (c.name = d.name) && decide (c.has = d.has) && atB w c.at_ d.at_ && eqTy c.arg d.arg
def eqCons (w : Bool) : List Con → List Con → Bool
  | [], [] => true
  | t :: l, u :: m => eqCon w t u && eqCons w l m
  | _, _ => false
mutual
def eqExp (w : Bool) : Exp → Exp → Bool
  | .mk k a s n l _ c _ d _, .mk k' a' s' n' l' _ c' _ d' _ => decide (k = k') && decide (n = n') && decide (s = s') && atB w a a' && eqExps w l l' && eqCases w c c' && eqDecs w d d'
def eqExps (w : Bool) : List Exp → List Exp → Bool
  | [], [] => true
  | t :: l, u :: m => eqExp w t u && eqExps w l m
  | _, _ => false
def eqCase (w : Bool) : Case → Case → Bool
  | .mk p e, .mk p' e' => eqPat w p p' && eqExp w e e'
def eqCases (w : Bool) : List Case → List Case → Bool
  | [], [] => true
  | t :: l, u :: m => eqCase w t u && eqCases w l m
  | _, _ => false
def eqDec (w : Bool) : Dec → Dec → Bool
  | .mk k a s p l _ c _ f _, .mk k' a' s' p' l' _ c' _ f' _ => decide (k = k') && decide (s = s') && decide (p = p') && atB w a a' && eqCases w c c' && eqFuns w f f' && eqCons w l l'
def eqDecs (w : Bool) : List Dec → List Dec → Bool
  | [], [] => true
  | t :: l, u :: m => eqDec w t u && eqDecs w l m
  | _, _ => false
def eqFun (w : Bool) : Fun → Fun → Bool
  | .mk s a c, .mk s' a' c' => decide (s = s') && atB w a a' && eqCase w c c'
def eqFuns (w : Bool) : List Fun → List Fun → Bool
  | [], [] => true
  | t :: l, u :: m => eqFun w t u && eqFuns w l m
  | _, _ => false
end
theorem eqTys_len : ∀ l m : List Ty, l.length ≠ m.length → eqTys l m = false
  | [], [], h => absurd rfl h
  | [], _ :: _, _ => by simp only [eqTys]
  | _ :: _, [], _ => by simp only [eqTys]
  | t :: l, u :: m, h => by rw [eqTys, eqTys_len l m (by simpa using h), Bool.and_false]
theorem eqPats_len (w : Bool) : ∀ l m : List Pat, l.length ≠ m.length → eqPats w l m = false
  | [], [], h => absurd rfl h
  | [], _ :: _, _ => by simp only [eqPats]
  | _ :: _, [], _ => by simp only [eqPats]
  | t :: l, u :: m, h => by rw [eqPats, eqPats_len w l m (by simpa using h), Bool.and_false]
theorem eqCons_len (w : Bool) : ∀ l m : List Con, l.length ≠ m.length → eqCons w l m = false
  | [], [], h => absurd rfl h
  | [], _ :: _, _ => by simp only [eqCons]
  | _ :: _, [], _ => by simp only [eqCons]
  | t :: l, u :: m, h => by rw [eqCons, eqCons_len w l m (by simpa using h), Bool.and_false]
theorem eqExps_len (w : Bool) : ∀ l m : List Exp, l.length ≠ m.length → eqExps w l m = false
  | [], [], h => absurd rfl h
  | [], _ :: _, _ => by simp only [eqExps]
  | _ :: _, [], _ => by simp only [eqExps]
  | t :: l, u :: m, h => by rw [eqExps, eqExps_len w l m (by simpa using h), Bool.and_false]
theorem eqCases_len (w : Bool) : ∀ l m : List Case, l.length ≠ m.length → eqCases w l m = false
  | [], [], h => absurd rfl h
  | [], _ :: _, _ => by simp only [eqCases]
  | _ :: _, [], _ => by simp only [eqCases]
  | t :: l, u :: m, h => by rw [eqCases, eqCases_len w l m (by simpa using h), Bool.and_false]
theorem eqDecs_len (w : Bool) : ∀ l m : List Dec, l.length ≠ m.length → eqDecs w l m = false
  | [], [], h => absurd rfl h
  | [], _ :: _, _ => by simp only [eqDecs]
  | _ :: _, [], _ => by simp only [eqDecs]
  | t :: l, u :: m, h => by rw [eqDecs, eqDecs_len w l m (by simpa using h), Bool.and_false]
theorem eqFuns_len (w : Bool) : ∀ l m : List Fun, l.length ≠ m.length → eqFuns w l m = false
  | [], [], h => absurd rfl h
  | [], _ :: _, _ => by simp only [eqFuns]
  | _ :: _, [], _ => by simp only [eqFuns]
  | t :: l, u :: m, h => by rw [eqFuns, eqFuns_len w l m (by simpa using h), Bool.and_false]

end Go.Am
