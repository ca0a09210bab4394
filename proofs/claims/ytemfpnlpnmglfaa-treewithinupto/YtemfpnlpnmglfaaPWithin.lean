/- What is right as a whole is right in each part (plain). -/
import Derived.Test.YtemfpnlpnmglfaaPTree
set_option linter.unusedVariables false
set_option linter.unusedSimpArgs false
namespace Go.Am
open Go

/-- each expression and each pattern that the list tells has its own nodes in the list, is no deeper than D and no bigger than S -/
def Within (l : List TNode) (D : Int) (S : Nat) : Prop := ∀ n ∈ l, (∀ e, n = .exp e → (∃ a b, l = a ++ (nodesExp e ++ b)) ∧ deepExp e ≤ D ∧ e.size ≤ S) ∧ (∀ p, n = .pat p → (∃ a b, l = a ++ (nodesPat p ++ b)) ∧ deepPat p ≤ D ∧ p.size ≤ S)

theorem Within.nil (D : Int) (S : Nat) : Within [] D S := fun n hn => by cases hn
theorem Within.mono {l : List TNode} {D E : Int} {S T : Nat} (h : Within l D S) (hd : D ≤ E) (hs : S ≤ T) : Within l E T := fun n hn => ⟨fun e he => by
  obtain ⟨h1, h2, h3⟩ := (h n hn).1 e he
  exact ⟨h1, by omega, by omega⟩, fun p hp => by
  obtain ⟨h1, h2, h3⟩ := (h n hn).2 p hp
  exact ⟨h1, by omega, by omega⟩⟩
theorem Within.app {l m : List TNode} {D : Int} {S : Nat} (h : Within l D S) (g : Within m D S) : Within (l ++ m) D S := fun n hn => by
  rcases List.mem_append.1 hn with hn | hn
  · refine ⟨fun e he => ?_, fun p hp => ?_⟩
    · obtain ⟨⟨a, b, hab⟩, hd⟩ := (h n hn).1 e he
      exact ⟨⟨a, b ++ m, by rw [hab]; simp⟩, hd⟩
    · obtain ⟨⟨a, b, hab⟩, hd⟩ := (h n hn).2 p hp
      exact ⟨⟨a, b ++ m, by rw [hab]; simp⟩, hd⟩
  · refine ⟨fun e he => ?_, fun p hp => ?_⟩
    · obtain ⟨⟨a, b, hab⟩, hd⟩ := (g n hn).1 e he
      exact ⟨⟨l ++ a, b, by rw [hab]; simp⟩, hd⟩
    · obtain ⟨⟨a, b, hab⟩, hd⟩ := (g n hn).2 p hp
      exact ⟨⟨l ++ a, b, by rw [hab]; simp⟩, hd⟩
theorem Within.cons {l : List TNode} {D : Int} {S : Nat} {n : TNode} (h : Within l D S) (h1 : ∀ e, n = .exp e → n :: l = nodesExp e ∧ deepExp e ≤ D ∧ e.size ≤ S) (h2 : ∀ p, n = .pat p → n :: l = nodesPat p ∧ deepPat p ≤ D ∧ p.size ≤ S) : Within (n :: l) D S := fun m hm => by
  rcases List.mem_cons.1 hm with rfl | hm
  · exact ⟨fun e he => ⟨⟨[], [], by rw [(h1 e he).1]; simp⟩, (h1 e he).2⟩, fun p hp => ⟨⟨[], [], by rw [(h2 p hp).1]; simp⟩, (h2 p hp).2⟩⟩
  · refine ⟨fun e he => ?_, fun p hp => ?_⟩
    · obtain ⟨⟨a, b, hab⟩, hd⟩ := (h m hm).1 e he
      exact ⟨⟨n :: a, b, by rw [hab]; simp⟩, hd⟩
    · obtain ⟨⟨a, b, hab⟩, hd⟩ := (h m hm).2 p hp
      exact ⟨⟨n :: a, b, by rw [hab]; simp⟩, hd⟩

mutual
theorem within_ty (a : Int) (D : Int) (S : Nat) : ∀ t : Ty, Within (nodesTy a t) D S
  | .mk k n s l b => by
    rw [nodesTy]
    exact (within_tys a D S l).cons (fun e he => by cases he) (fun p hp => by cases hp)
theorem within_tys (a : Int) (D : Int) (S : Nat) : ∀ l : List Ty, Within (nodesTys a l) D S
  | [] => by rw [nodesTys]; exact .nil D S
  | t :: l => by rw [nodesTys]; exact (within_ty a D S t).app (within_tys a D S l)
end
mutual
theorem within_pat : ∀ t : Pat, Within (nodesPat t) (deepPat t) t.size
  | .mk k a s n l b => by
    have h := within_pats l 0
    rw [nodesPat]
    refine (h.mono (by simp only [deepPat]; omega) (by simp only [Pat.size]; omega)).cons (fun e he => by cases he) (fun p hp => by cases hp; exact ⟨by rw [nodesPat], Int.le_refl _, Nat.le_refl _⟩)
theorem within_pats : ∀ (l : List Pat) (n : Int), Within (nodesPats l) (deepPats l n) (Pat.sizes l)
  | [], n => by rw [nodesPats]; exact .nil _ _
  | t :: l, n => by
    rw [nodesPats, deepPats, Pat.sizes]
    have h1 := (deepPats_le l (maxI n (deepPat t))).1
    have h2 := maxI_eq n (deepPat t)
    exact ((within_pat t).mono (by omega) (by omega)).app ((within_pats l _).mono (Int.le_refl _) (by omega))
end
theorem within_con (c : Con) (D : Int) (S : Nat) : Within (nodesCon c) D S := by
  unfold nodesCon
  refine Within.cons ?_ (fun e he => by cases he) (fun p hp => by cases hp)
  cases c.has
  · exact .nil D S
  · exact within_ty _ D S _
theorem within_cons (D : Int) (S : Nat) : ∀ l : List Con, Within (nodesCons l) D S
  | [] => by rw [nodesCons]; exact .nil D S
  | t :: l => by rw [nodesCons]; exact (within_con t D S).app (within_cons D S l)
mutual
theorem within_exp : ∀ t : Exp, Within (nodesExp t) (deepExp t) t.size
  | .mk k a s n l lb c cb d db => by
    have h1 := within_decs true d 0
    have h2 := within_exps l (maxI (deepDecs d 0) (deepCases c 0))
    have h3 := within_cases c 0
    have g1 := (deepExps_le l (maxI (deepDecs d 0) (deepCases c 0))).1
    have g2 := maxI_eq (deepDecs d 0) (deepCases c 0)
    rw [nodesExp]
    refine Within.cons ((h1.mono ?_ ?_).app ((h2.mono ?_ ?_).app (h3.mono ?_ ?_))) (fun e he => by cases he; exact ⟨by rw [nodesExp], Int.le_refl _, Nat.le_refl _⟩) (fun p hp => by cases hp)
    all_goals simp only [deepExp, Exp.size]; omega
theorem within_exps : ∀ (l : List Exp) (n : Int), Within (nodesExps l) (deepExps l n) (Exp.sizes l)
  | [], n => by rw [nodesExps]; exact .nil _ _
  | t :: l, n => by
    rw [nodesExps, deepExps, Exp.sizes]
    have h1 := (deepExps_le l (maxI n (deepExp t))).1
    have h2 := maxI_eq n (deepExp t)
    exact ((within_exp t).mono (by omega) (by omega)).app ((within_exps l _).mono (Int.le_refl _) (by omega))
theorem within_case : ∀ c : Case, Within (nodesCase c) (deepCase c) c.size
  | .mk p e => by
    have h1 := within_pat p
    have h2 := within_exp e
    have h3 := maxI_eq 0 (deepPat p)
    have h4 := maxI_eq (maxI 0 (deepPat p)) (deepExp e)
    rw [nodesCase, deepCase, Case.size]
    exact (h1.mono (by omega) (by omega)).app (h2.mono (by omega) (by omega))
theorem within_cases : ∀ (l : List Case) (n : Int), Within (nodesCases l) (deepCases l n) (Case.sizes l)
  | [], n => by rw [nodesCases]; exact .nil _ _
  | .mk p e :: l, n => by
    have h1 := within_pat p
    have h2 := within_exp e
    have h3 := maxI_eq n (deepPat p)
    have h4 := maxI_eq (maxI n (deepPat p)) (deepExp e)
    have h5 := (deepCases_le l (maxI (maxI n (deepPat p)) (deepExp e))).1
    have h6 := within_cases l (maxI (maxI n (deepPat p)) (deepExp e))
    rw [nodesCases, nodesCase, deepCases, Case.sizes, Case.size]
    exact ((h1.mono (by omega) (by omega)).app (h2.mono (by omega) (by omega))).app (h6.mono (Int.le_refl _) (by omega))
theorem within_decs (i : Bool) : ∀ (l : List Dec) (n : Int), Within (nodesDecs i l) (deepDecs l n) (Dec.sizes l)
  | [], n => by rw [nodesDecs]; exact .nil _ _
  | .mk k a s p l lb c cb f fb :: r, n => by
    have h1 := within_cases c 0
    have h2 := within_funs f (deepCases c 0)
    have h3 := fun D S => within_cons D S l
    have h4 := within_decs i r (maxI n (deepCons l (deepFuns f (deepCases c 0)) + 1))
    have g1 := (deepFuns_le f (deepCases c 0)).1
    have g2 := (deepCons_le l (deepFuns f (deepCases c 0))).1
    have g3 := (deepDecs_le r (maxI n (deepCons l (deepFuns f (deepCases c 0)) + 1))).1
    have g4 := maxI_eq n (deepCons l (deepFuns f (deepCases c 0)) + 1)
    rw [nodesDecs, nodesDec, deepDecs, Dec.sizes, Dec.size]
    exact (Within.cons ((h1.mono (by omega) (by omega)).app ((h2.mono (by omega) (by omega)).app (h3 _ _))) (fun e he => by cases he) (fun p hp => by cases hp)).app (h4.mono (Int.le_refl _) (by omega))
theorem within_funs : ∀ (l : List Fun) (n : Int), Within (nodesFuns l) (deepFuns l n) (Fun.sizes l)
  | [], n => by rw [nodesFuns]; exact .nil _ _
  | .mk s a c :: l, n => by
    have h1 := within_case c
    have h2 := within_funs l (maxI n (deepCase c))
    have g1 := (deepFuns_le l (maxI n (deepCase c))).1
    have g2 := maxI_eq n (deepCase c)
    rw [nodesFuns, nodesFun, deepFuns, Fun.sizes, Fun.size]
    exact (Within.cons (h1.mono (by omega) (by omega)) (fun e he => by cases he) (fun p hp => by cases hp)).app (h2.mono (Int.le_refl _) (by omega))
end

theorem firstBad_all : ∀ l : List TNode, firstBad l = .zero → ∀ n ∈ l, n.bad.kind = 0
  | [], _, n, hn => by cases hn
  | u :: l, h, n, hn => by
    rw [firstBad] at h
    by_cases hu : u.bad.kind = 0
    · rw [decide_eq_true hu, cond_true] at h
      rcases List.mem_cons.1 hn with rfl | hn
      · exact hu
      · exact firstBad_all l h n hn
    · rw [decide_eq_false hu, cond_false] at h
      rw [h] at hu
      exact absurd rfl hu
theorem firstBad_zero : ∀ l : List TNode, (∀ n ∈ l, n.bad.kind = 0) → firstBad l = .zero
  | [], _ => rfl
  | u :: l, h => by
    rw [firstBad, decide_eq_true (h u (by simp)), cond_true]
    exact firstBad_zero l fun n hn => h n (List.mem_cons_of_mem _ hn)

/-- a part of what is right is right -/
theorem right_part {l m a b : List TNode} {D E : Int} (h : rightN l D = .zero) (hm : l = a ++ (m ++ b)) (hd : E ≤ D) : rightN m E = .zero := by
  unfold rightN at h ⊢
  cases h1 : decide (countN l > 8192) with
  | true => rw [h1, cond_true] at h; cases h
  | false =>
    rw [h1, cond_false] at h
    cases h2 : decide (D > 100) with
    | true => rw [h2, cond_true] at h; cases h
    | false =>
      rw [h2, cond_false] at h
      have h3 := firstBad_all l h
      have h4 : countN m ≤ countN l := by rw [hm]; simp only [countN, List.filter_append, List.length_append]; omega
      have h5 : ¬ countN l > 8192 := of_decide_eq_false h1
      have h6 : ¬ D > 100 := of_decide_eq_false h2
      rw [decide_eq_false (by omega), cond_false, decide_eq_false (by omega), cond_false]
      exact firstBad_zero m fun n hn => h3 n (by rw [hm]; simp [hn])

end Go.Am
