/- A part of the proof: SKnows, SRef13, PRN, PDeclOK, PBare, PTab, SLaw11, LDeclOf. -/
import Derived.Test.YtoahliipbclneaaGreatM9
import Derived.Test.YtoahliipbclneaaGreatM10
import Derived.Test.YtoahliipbclneaaGreatM12
import Derived.Test.YtoahliipbclneaaGreatM13
import Derived.Test.YtoahliipbclneaaGreatM14
set_option linter.unusedVariables false
set_option linter.unusedSimpArgs false
namespace Go.Am
open Go
@[go_sem] theorem Qmo {l : List AV} {off sz : Nat} {m : List AV} (h : sz = 1) (k : off + 1 ≤ l.length) (r : List (Nat × Nat × Slot)) : fillS l ((off, sz, .full m) :: r) = fillS (l.take off ++ ([.sl m] ++ l.drop (off + 1))) r := by
  subst h
  exact QfD (x := .full m) (v := .sl m) rfl rfl rfl k r
end Go.Am
namespace Go.Proofs.YtoahliipbclneaaGreat
open Go Go.Am
set_option linter.unusedVariables false
set_option maxRecDepth 4000
theorem eqBad (a b a' b' : Int) (c c' : Str) : eqS (C.ti Q6) (.agg [.int .i64 a, .int .i64 b, .str c]) (.agg [.int .i64 a', .int .i64 b', .str c']) = some (decide (TBad.mk a b c = TBad.mk a' b' c')) := by
 unfold eqS
 simp only [Qir, Qfo]
 have e1 : (a == a') = decide (a = a') := by rw [Bool.eq_iff_iff]; simp
 have e2 : (b == b') = decide (b = b') := by rw [Bool.eq_iff_iff]; simp
 have e3 : (c == c') = decide (c = c') := by rw [Bool.eq_iff_iff]; simp
 by_cases h1 : a = a' <;> by_cases h2 : b = b' <;> by_cases h3 : c = c' <;> simp [eqAll, TK.has, AV.eqb, e1, e2, e3, h1, h2, h3]
theorem Qfv (a b a' b' : Int) (c c' : Str) : binS (C.ti Q6) .eql (.val (.agg [.int .i64 a, .int .i64 b, .str c])) (.val (.agg [.int .i64 a', .int .i64 b', .str c'])) = some (.val (.bool (decide (TBad.mk a b c = TBad.mk a' b' c')))) := by
 unfold binS
 simp only [Q0g, eqBad]
 rfl
theorem Q9N (a b a' b' : Int) (c c' : Str) : binS (C.ti Q6) .neq (.val (.agg [.int .i64 a, .int .i64 b, .str c])) (.val (.agg [.int .i64 a', .int .i64 b', .str c'])) = some (.val (.bool (!decide (TBad.mk a b c = TBad.mk a' b' c')))) := by
 unfold binS
 simp only [Q0g, eqBad]
 rfl
@[go_sem] theorem Q8C (a b : Int) (c : Str) : binS (C.ti Q6) .eql (.val (.agg [.int .i64 a, .int .i64 b, .str c])) (.val (.agg [.int .i64 a, .int .i64 b, .str c])) = some (.val (.bool true)) := by
  rw [Qfv, decide_eq_true rfl]
def kE1 : Exp := .mk 4 0 [] 0 [.mk 1 0 [] 1 [] true [] true [] true] false [] true [] true
def kP : Pat := .mk 6 0 [120] 0 [.mk 2 0 [121] 0 [] true] false
def kE2 : Exp := .mk 2 4 [78, 105, 108] 0 [] true [] true [] true
def kD : List Dec := [.mk 1 0 [] 0 [] true [.mk kP kE1] false [] true]
theorem k1 : rightN (nodesExp kE1) (deepExp kE1) = ⟨19, 0, []⟩ := by decide +kernel
theorem k2 : rightN (nodesExp kE2) (deepExp kE2) = ⟨8, 4, [78, 105, 108]⟩ := by decide +kernel
theorem k3 : countN (nodesDecs false kD) = 5 := by decide +kernel
theorem k4 : varsPat kP = [[120], [121]] := by decide +kernel
end Go.Proofs.YtoahliipbclneaaGreat
namespace Go.Proofs.YtoahliipbclneaaGreat
open Go Go.Am
set_option linter.unusedVariables false
set_option maxRecDepth 4000
theorem Q6Y (p q : Place) (h : p.ty.size < 2^40) (s : St) : cw (.f Q22) [p.enc, q.enc] s = some (.ret (.val (.bool (eqPl p q))), s) := by
 have e1 := fun s => Q85 _ p.ty (Nat.le_refl _) h q.ty s
 simp only [Ty.enc, Ty.cells_eq] at e1
 rw [Q84]
 simp only [go_sem, Nat.reduceAdd, Nat.reduceLeDiff, Place.enc, Place.cells_eq, List.map_cons, List.map_nil, e1]
 rfl
theorem Q5W (t u : List Place) (x y : Slot) (hx : x.list? = some (t.map Place.enc)) (hy : y.list? = some (u.map Place.enc)) (hl : t.length < 2^40) (he : t.length = u.length) (hw : ∀ p ∈ t, p.ty.size < 2^40) (s : St) : ∀ (suf suf' pre pre' : List Place) (i : Nat), pre ++ suf = t → pre' ++ suf' = u → i = pre.length → pre'.length = pre.length →
  Q1o x y (.val (.int .i64 i)) s = some (.ret (.val (.bool (eqTab suf suf'))), s)
 | [], suf', pre, pre', i, hp, hp', hi, hi' => by
   subst hi
   have : suf' = [] := by
    have h1 : t.length = pre.length := by rw [← hp]; simp
    have h2 : u.length = pre'.length + suf'.length := by rw [← hp']; simp
    exact List.eq_nil_of_length_eq_zero (by omega)
   subst this
   rw [Q5p]; simp only [go_sem, hx, List.length_map, Q9 (show pre = t by simpa using hp), eqTab]
 | p :: suf, [], pre, pre', i, hp, hp', hi, hi' => by
   have h1 : t.length = pre.length + (suf.length + 1) := by rw [← hp]; simp
   have h2 : u.length = pre'.length := by rw [← hp']; simp
   omega
 | p :: suf, q :: suf', pre, pre', i, hp, hp', hi, hi' => by
   subst hi
   obtain ⟨f1, f2, f3⟩ := Q8 hx hp (by omega) (Place.cells_len p) (by decide)
   obtain ⟨f4, f5, f6⟩ := Q8 hy hp' (by omega) (Place.cells_len q) (by decide)
   rw [hi'] at f5
   have ih := Q5W t u x y hx hy hl he hw s suf suf' (pre ++ [p]) (pre' ++ [q]) (pre.length + 1) (by simpa using hp) (by simpa using hp') (by simp) (by simp [hi'])
   have e1 := Q6Y p q (hw p (by rw [← hp]; simp)) s
   simp only [Place.enc, Place.cells_eq] at e1
   rw [Q5p]
   cases e : eqPl p q with
   | true =>
     rw [e] at e1
     simp only [go_sem, Nat.reduceAdd, Nat.reduceLeDiff, hx, List.length_map, f1, f2, f3, f5, Place.cells_eq, List.map_cons, List.map_nil, e1, Bool.not_true, ih, eqTab, e, Bool.true_and]
   | false =>
     rw [e] at e1
     simp only [go_sem, Nat.reduceAdd, Nat.reduceLeDiff, hx, List.length_map, f1, f2, f3, f5, Place.cells_eq, List.map_cons, List.map_nil, e1, Bool.not_false, eqTab, e, Bool.false_and]
theorem QaE (t u : List Place) (v w : AV) (hv : (Slot.val v).list? = some (t.map Place.enc)) (hw' : (Slot.val w).list? = some (u.map Place.enc)) (hl : t.length < 2^40) (hw : ∀ p ∈ t, p.ty.size < 2^40) (s : St) :
  cw (.f Q2P) [v, w] s = some (.ret (.val (.bool (eqTab t u))), s) := by
 rw [QcR]
 by_cases he : t.length = u.length
 ·have e1 := Q5W t u (.val v) (.val w) hv hw' hl he hw s t u [] [] 0 rfl rfl rfl rfl
  rw [show ((0 : Nat) : Int) = 0 from rfl] at e1
  have he' : decide ((t.length : Int) = (u.length : Int)) = true := by simp only [decide_eq_true_eq]; omega
  simp only [go_sem, hv, hw', List.length_map, he', Bool.not_true, e1]
 ·have he' : decide ((t.length : Int) = (u.length : Int)) = false := by simp only [decide_eq_false_iff_not]; omega
  have : eqTab t u = false := by
   cases h : eqTab t u with
   | false => rfl
   | true => exact absurd (Q7M h) he
  simp only [go_sem, hv, hw', List.length_map, he', Bool.not_false, this]
section
variable (t : List Place) (v : AV) (s0 : St)
end
theorem Qdd {l : List TNode} {D : Int} : decide (TBad.mk (rightN l D).kind (rightN l D).at_ (rightN l D).name = TBad.mk 0 0 []) = decide ((rightN l D).kind = 0) := by
 rw [decide_eq_decide]
 constructor
 ·intro h; injection h
 ·intro h
  rw [Q6Z.1 h]; rfl
end Go.Proofs.YtoahliipbclneaaGreat
namespace Go.Proofs.YtoahliipbclneaaGreat
open Go Go.Am
set_option linter.unusedVariables false
def RN (l : List TNode) : Prop := ∀ n ∈ l, n.wrong.1 = 0
theorem RN.l {a b : List TNode} (h : RN (a ++ b)) : RN a := fun n hn => h n (List.mem_append_left _ hn)
theorem RN.r {a b : List TNode} (h : RN (a ++ b)) : RN b := fun n hn => h n (List.mem_append_right _ hn)
theorem RN.t {x : TNode} {a : List TNode} (h : RN (x :: a)) : RN a := fun n hn => h n (List.mem_cons_of_mem _ hn)
theorem RN.cases : ∀ {l : List Case}, RN (nodesCases l) → ∀ e ∈ l, RN (nodesCase e)
 | x :: l, h, e, he => by
   simp only [nodesCases] at h
   rcases List.mem_cons.1 he with rfl | he
   ·exact h.l
   ·exact h.r.cases e he
theorem RN.decs {i : Bool} : ∀ {l : List Dec}, RN (nodesDecs i l) → ∀ e ∈ l, RN (nodesDec i e)
 | x :: l, h, e, he => by
   simp only [nodesDecs] at h
   rcases List.mem_cons.1 he with rfl | he
   ·exact h.l
   ·exact h.r.decs e he
theorem RN.funs : ∀ {l : List Fun}, RN (nodesFuns l) → ∀ e ∈ l, RN (nodesCase e.case)
 | x :: l, h, e, he => by
   simp only [nodesFuns] at h
   rcases List.mem_cons.1 he with rfl | he
   ·cases e; simp only [nodesFun] at h; exact h.l.t
   ·exact h.r.funs e he
end Go.Proofs.YtoahliipbclneaaGreat
namespace Go.Proofs.YtoahliipbclneaaGreat
open Go Go.Am
set_option linter.unusedVariables false
theorem Qhv {i : Bool} {d : Dec} (hr : RN (nodesDec i d)) : DecOK d := by
 have hw : wrongDecB d i = 0 := by cases d; simp only [nodesDec] at hr; exact hr _ List.mem_cons_self
 have D := Qdh hw
 refine ⟨D.kind, fun h => (D.data h).2.2.1, fun h => by have := (D.exn h).2.2; omega, fun c hc hh u hu hk => ?_⟩
 have hmem : ∀ (l : List Con), c ∈ l → .ty u c.at_ ∈ nodesCons l := fun l => by
  induction l with
  | nil => intro h; cases h
  | cons x l ih =>
    intro h
    simp only [nodesCons, List.mem_append]
    rcases List.mem_cons.1 h with rfl | h
    ·left
     simp only [nodesCon, hh, cond_true]
     refine List.mem_cons_of_mem _ ?_
     rw [Q1x]
     exact List.mem_map.2 ⟨u, hu, rfl⟩
    ·exact .inr (ih h)
 have hn : .ty u c.at_ ∈ nodesDec i d := by
  cases d with
  | mk k a s p l lb cs cb f fb =>
  simp only [nodesDec]
  exact List.mem_cons_of_mem _ (List.mem_append_right _ (List.mem_append_right _ (hmem l hc)))
 have ht := Qo0 (t := u) (hr _ hn)
 exact ⟨(ht.2.1 hk).1, (ht.2.1 hk).2.1⟩
theorem QeJ : ∀ p ∈ startD, 0 ≤ p.vars := by
 intro p hp
 simp only [startD, List.mem_cons, List.not_mem_nil, or_false] at hp
 rcases hp with rfl | rfl | rfl | rfl | rfl | rfl <;> exact Int.le_refl _
end Go.Proofs.YtoahliipbclneaaGreat
namespace Go.Am
open Go
mutual
def nmTy : Ty → Ty
 | .mk k n s l _ => .mk k n s (nmTys l) true
def nmTys : List Ty → List Ty
 | [] => []
 | t :: l => nmTy t :: nmTys l
end
def nmAt (w : Bool) (a : Int) : Int := bif w then a else 0
mutual
def nmPat (w : Bool) : Pat → Pat
 | .mk k a s n l _ => .mk k (nmAt w a) s n (nmPats w l) true
def nmPats (w : Bool) : List Pat → List Pat
 | [] => []
 | t :: l => nmPat w t :: nmPats w l
end
def nmCon (w : Bool) (c : Con) : Con := ⟨c.name, nmAt w c.at_, c.has, nmTy c.arg⟩
def nmCons (w : Bool) : List Con → List Con
 | [] => []
 | t :: l => nmCon w t :: nmCons w l
mutual
def nmExp (w : Bool) : Exp → Exp
 | .mk k a s n l _ c _ d _ => .mk k (nmAt w a) s n (nmExps w l) true (nmCases w c) true (nmDecs w d) true
def nmExps (w : Bool) : List Exp → List Exp
 | [] => []
 | t :: l => nmExp w t :: nmExps w l
def nmCase (w : Bool) : Case → Case
 | .mk p e => .mk (nmPat w p) (nmExp w e)
def nmCases (w : Bool) : List Case → List Case
 | [] => []
 | t :: l => nmCase w t :: nmCases w l
def nmDec (w : Bool) : Dec → Dec
 | .mk k a s p l _ c _ f _ => .mk k (nmAt w a) s p (nmCons w l) true (nmCases w c) true (nmFuns w f) true
def nmDecs (w : Bool) : List Dec → List Dec
 | [] => []
 | t :: l => nmDec w t :: nmDecs w l
def nmFun (w : Bool) : Fun → Fun
 | .mk s a c => .mk s (nmAt w a) (nmCase w c)
def nmFuns (w : Bool) : List Fun → List Fun
 | [] => []
 | t :: l => nmFun w t :: nmFuns w l
end
theorem Q6j (w : Bool) (a b : Int) : atB w a b = true ↔ nmAt w a = nmAt w b := by cases w <;> simp [atB, nmAt]
mutual
theorem Q9a : ∀ t u : Ty, eqTy t u = true ↔ nmTy t = nmTy u
 | .mk k n s l b, .mk k' n' s' l' b' => by simp only [eqTy, nmTy, Ty.mk.injEq, Bool.and_eq_true, decide_eq_true_eq, Qc1 l l', and_true, and_assoc]
theorem Qc1 : ∀ l m : List Ty, eqTys l m = true ↔ nmTys l = nmTys m
 | [], [] => by simp [eqTys, nmTys]
 | [], _ :: _ => by simp [eqTys, nmTys]
 | _ :: _, [] => by simp [eqTys, nmTys]
 | t :: l, u :: m => by simp only [eqTys, nmTys, List.cons.injEq, Bool.and_eq_true, Q9a t u, Qc1 l m]
end
mutual
theorem QbY (w : Bool) : ∀ t u : Pat, eqPat w t u = true ↔ nmPat w t = nmPat w u
 | .mk k a s n l b, .mk k' a' s' n' l' b' => by
   simp only [eqPat, nmPat, Pat.mk.injEq, Bool.and_eq_true, decide_eq_true_eq, Qa6 w l l', Q6j, and_true]
   constructor <;> simp +contextual
theorem Qa6 (w : Bool) : ∀ l m : List Pat, eqPats w l m = true ↔ nmPats w l = nmPats w m
 | [], [] => by simp [eqPats, nmPats]
 | [], _ :: _ => by simp [eqPats, nmPats]
 | _ :: _, [] => by simp [eqPats, nmPats]
 | t :: l, u :: m => by simp only [eqPats, nmPats, List.cons.injEq, Bool.and_eq_true, QbY w t u, Qa6 w l m]
end
theorem Qgx (w : Bool) (c d : Con) : eqCon w c d = true ↔ nmCon w c = nmCon w d := by
 simp only [eqCon, nmCon, Con.mk.injEq, Bool.and_eq_true, decide_eq_true_eq, Q9a, Q6j]
 constructor <;> simp +contextual
theorem Qa2 (w : Bool) : ∀ l m : List Con, eqCons w l m = true ↔ nmCons w l = nmCons w m
 | [], [] => by simp [eqCons, nmCons]
 | [], _ :: _ => by simp [eqCons, nmCons]
 | _ :: _, [] => by simp [eqCons, nmCons]
 | t :: l, u :: m => by simp only [eqCons, nmCons, List.cons.injEq, Bool.and_eq_true, Qgx w t u, Qa2 w l m]
mutual
theorem QbX (w : Bool) : ∀ t u : Exp, eqExp w t u = true ↔ nmExp w t = nmExp w u
 | .mk k a s n l lb c cb d db, .mk k' a' s' n' l' lb' c' cb' d' db' => by
   simp only [eqExp, nmExp, Exp.mk.injEq, Bool.and_eq_true, decide_eq_true_eq, Qa4 w l l', Q67 w c c', Qa3 w d d', Q6j, and_true]
   constructor <;> simp +contextual
theorem Qa4 (w : Bool) : ∀ l m : List Exp, eqExps w l m = true ↔ nmExps w l = nmExps w m
 | [], [] => by simp [eqExps, nmExps]
 | [], _ :: _ => by simp [eqExps, nmExps]
 | _ :: _, [] => by simp [eqExps, nmExps]
 | t :: l, u :: m => by simp only [eqExps, nmExps, List.cons.injEq, Bool.and_eq_true, QbX w t u, Qa4 w l m]
theorem Qa1 (w : Bool) : ∀ t u : Case, eqCase w t u = true ↔ nmCase w t = nmCase w u
 | .mk p e, .mk p' e' => by simp only [eqCase, nmCase, Case.mk.injEq, Bool.and_eq_true, QbY w p p', QbX w e e']
theorem Q67 (w : Bool) : ∀ l m : List Case, eqCases w l m = true ↔ nmCases w l = nmCases w m
 | [], [] => by simp [eqCases, nmCases]
 | [], _ :: _ => by simp [eqCases, nmCases]
 | _ :: _, [] => by simp [eqCases, nmCases]
 | t :: l, u :: m => by simp only [eqCases, nmCases, List.cons.injEq, Bool.and_eq_true, Qa1 w t u, Q67 w l m]
theorem Qgy (w : Bool) : ∀ t u : Dec, eqDec w t u = true ↔ nmDec w t = nmDec w u
 | .mk k a s p l lb c cb f fb, .mk k' a' s' p' l' lb' c' cb' f' fb' => by
   simp only [eqDec, nmDec, Dec.mk.injEq, Bool.and_eq_true, decide_eq_true_eq, Qa2 w l l', Q67 w c c', Qa5 w f f', Q6j, and_true]
   constructor <;> simp +contextual
theorem Qa3 (w : Bool) : ∀ l m : List Dec, eqDecs w l m = true ↔ nmDecs w l = nmDecs w m
 | [], [] => by simp [eqDecs, nmDecs]
 | [], _ :: _ => by simp [eqDecs, nmDecs]
 | _ :: _, [] => by simp [eqDecs, nmDecs]
 | t :: l, u :: m => by simp only [eqDecs, nmDecs, List.cons.injEq, Bool.and_eq_true, Qgy w t u, Qa3 w l m]
theorem Qgz (w : Bool) : ∀ t u : Fun, eqFun w t u = true ↔ nmFun w t = nmFun w u
 | .mk s a c, .mk s' a' c' => by
   simp only [eqFun, nmFun, Fun.mk.injEq, Bool.and_eq_true, decide_eq_true_eq, Qa1 w c c', Q6j]
   constructor <;> simp +contextual
theorem Qa5 (w : Bool) : ∀ l m : List Fun, eqFuns w l m = true ↔ nmFuns w l = nmFuns w m
 | [], [] => by simp [eqFuns, nmFuns]
 | [], _ :: _ => by simp [eqFuns, nmFuns]
 | _ :: _, [] => by simp [eqFuns, nmFuns]
 | t :: l, u :: m => by simp only [eqFuns, nmFuns, List.cons.injEq, Bool.and_eq_true, Qgz w t u, Qa5 w l m]
end
end Go.Am
namespace Go.Proofs.YtoahliipbclneaaGreat
open Go Go.Am
set_option linter.unusedVariables false
mutual
theorem QdN : ∀ t : Ty, ownTy t = nmTy t
 | .mk k n s l b => by simp only [ownTy, nmTy, Qfk l]
theorem Qfk : ∀ l : List Ty, ownTys l = nmTys l
 | [] => rfl
 | t :: l => by simp only [ownTys, nmTys, QdN t, Qfk l]
end
theorem QhE (t u : Ty) : eqTy t u = true ↔ ownTy t = ownTy u := by rw [QdN, QdN]; exact Q9a t u
theorem QhD (p q : Place) : eqPl p q = true ↔ ownP p = ownP q := by
 cases p; cases q
 simp only [eqPl, ownP, Bool.and_eq_true, decide_eq_true_eq, beq_iff_eq, QhE, Place.mk.injEq, and_assoc]
theorem Qc0 : ∀ t u : List Place, eqTab t u = true ↔ TabEq t u
 | [], [] => ⟨fun _ => rfl, fun _ => rfl⟩
 | [], q :: u => by simp [eqTab, TabEq]
 | p :: t, [] => by simp [eqTab, TabEq]
 | p :: t, q :: u => by
   simp only [eqTab, Bool.and_eq_true, QhD, Qc0 t u, TabEq, List.map_cons, List.cons.injEq]
theorem Qi7 {P : List Dec} {D : Int} (h : rightN (nodesDecs false P) D = .zero) : RN (nodesDecs false P) := Q6d h
end Go.Proofs.YtoahliipbclneaaGreat
namespace Go.Proofs.YtoahliipbclneaaGreat
open Go Go.Am
set_option linter.unusedVariables false
set_option maxRecDepth 4000
def kD11 : Dec := .mk 3 0 [111, 112, 116] 1 [⟨[78, 111, 110, 101], 0, false, .zero⟩, ⟨[83, 111, 109, 101], 0, true, .mk 1 0 [] [] true⟩] false [] true [] true
def kT11 : List Place := (addD startD kD11).1
def placeB (p : Place) : Bool := decide (p.name.length < 2^40) && (decide (p.data.length < 2^40) && (preTy p.ty).all fun u => decide (u.name.length < 2^40))
theorem QgU {p : Place} (h : placeB p = true) : PlaceOK p := by
 simp only [placeB, Bool.and_eq_true, decide_eq_true_eq, List.all_eq_true] at h
 refine ⟨h.1, h.2.1, ?_⟩
 intro n hn
 rw [Q1x] at hn
 obtain ⟨u, hu, rfl⟩ := List.mem_map.1 hn
 exact h.2.2 u hu
theorem Qaj {t : List Place} (h : t.all placeB = true) : ∀ p ∈ t, PlaceOK p := fun p hp => QgU (List.all_eq_true.1 h p hp)
theorem kstart_ok : TabOK startD := ⟨by decide +kernel, Qaj (by decide +kernel)⟩
theorem kT11_ok : TabOK kT11 := ⟨by decide +kernel, Qaj (by decide +kernel)⟩
theorem Qj0 : (addD startD kD11).2 = .zero := by decide +kernel
theorem Qf9 : kT11.length = 8 := by decide +kernel
theorem QgJ : rightTD kT11 = true := by decide +kernel
def k11B (o : Option Place) : Bool := match o with
 | some p => decide (p.tag = 1) && decide (p.of_ = 2) && decide (p.vars = 1) && decide (p.ty.name = [45, 62])
 | none => false
theorem QhJ : k11B (findD [83, 111, 109, 101] kT11) = true := by decide +kernel
theorem Q5a (s : St) : Ret (cw (.f Q2n) [] s) s (.bool true) := by
 obtain ⟨s1, e1, g1⟩ := Q31 s
 have hst : (startD.map Place.enc) ≠ [] := by simp [startD]
 obtain ⟨s2, w, e2, hw, g2⟩ := Q79 startD kD11 (by decide) kstart_ok.wide (by decide) (by decide) (fun c hc => by
  simp only [kD11, Dec.cons, List.mem_cons, List.not_mem_nil, or_false] at hc
  rcases hc with rfl | rfl
  ·exact Q4X (by simp) (by simp)
  ·exact Q4X (by simp) (by simp)) (.sl (startD.map Place.enc)) rfl s1
 obtain ⟨s3, e3, g3⟩ := Qbc [83, 111, 109, 101] kT11 (by rw [Qf9]; decide) kT11_ok.wide w hw s2
 obtain ⟨s4, e4, g4⟩ := Q9V kT11 kT11_ok w hw s3
 have hf := QhJ
 cases hfd : findD [83, 111, 109, 101] kT11 with
 | none => rw [hfd] at hf; cases hf
 | some p =>
   rw [hfd] at hf e3
   simp only [k11B, Bool.and_eq_true, decide_eq_true_eq] at hf
   obtain ⟨⟨⟨h1, h2⟩, h3⟩, h4⟩ := hf
   rw [Qj0] at e2
   rw [QgJ] at e4
   have hlen : ((kT11.length : Nat) : Int) = 8 := by rw [Qf9]; rfl
   have hw' : (Slot.val w).list? = some (kT11.map Place.enc) := hw
   refine ⟨s4, ?_, ((g1.trans g2).trans g3).trans g4⟩
   simp only [foundD, Place.enc, Place.cells_eq, h1, h2, h3, h4] at e3
   simp only [kD11, Dec.enc, Dec.cells_mk, List.map_cons, List.map_nil, Q34, ZY, Con.enc, Con.cells, Ty.zero, Ty.cells_mk, TBad.enc, TBad.cells, TBad.zero] at e2
   rw [Qbj]
   simp only [go_sem, Nat.reduceAdd, Nat.reduceLeDiff, e1, e2, e3, e4, hw', List.length_map, hlen, Q8C, decide_true]
end Go.Proofs.YtoahliipbclneaaGreat
namespace Go.Proofs.YtoahliipbclneaaGreat
open Go Go.Am
set_option linter.unusedVariables false
set_option maxRecDepth 4000
theorem TabEq.size {t u : List Place} (h : TabEq t u) {k : Nat} (hu : ∀ p ∈ u, p.ty.size < k) : ∀ p ∈ t, p.ty.size < k := by
 intro p hp
 have hm : ownP p ∈ u.map ownP := by rw [← h]; exact List.mem_map_of_mem hp
 obtain ⟨q, hq, e⟩ := List.mem_map.1 hm
 have h1 : (ownP p).ty.size = p.ty.size := Q1Z p.ty
 have h2 : (ownP q).ty.size = q.ty.size := Q1Z q.ty
 rw [← h1, ← e, h2]
 exact hu q hq
theorem TabEq.vars {t u : List Place} (h : TabEq t u) (hu : ∀ p ∈ u, 0 ≤ p.vars) : ∀ p ∈ t, 0 ≤ p.vars := by
 intro p hp
 have hm : ownP p ∈ u.map ownP := by rw [← h]; exact List.mem_map_of_mem hp
 obtain ⟨q, hq, e⟩ := List.mem_map.1 hm
 have h1 : (ownP p).vars = p.vars := rfl
 rw [← h1, ← e]
 exact hu q hq
theorem Qfh : ∀ (P : List Dec) (t : List Place), (∀ d ∈ P, DecFitR d) → (∀ p ∈ t, p.ty.size < 2^27) → ∀ p ∈ (ofR P t).1, p.ty.size < 2^27
 | [], _, _, h => h
 | d :: P, t, hF, h => by
   simp only [ofR]
   split
   ·simp
   ·exact Qfh P _ (fun q hq => hF q (List.mem_cons_of_mem _ hq)) (Qda t d (hF d List.mem_cons_self) h)
theorem Qfi : ∀ (P : List Dec) (t : List Place), (ofR P t).1.length ≤ t.length + consOf P
 | [], t => Nat.le_refl _
 | d :: P, t => by
   simp only [ofR]
   split
   ·simp
   ·have h1 := Qfi P (addR t d).1
    have h2 := Qdb t d
    simp only [consOf]; omega
theorem Q8q (P : List Dec) (nl : Bool) (hs : Dec.sizes P ≤ 2^20) (hok : ∀ n ∈ nodesDecs false P, n.ok) (s : St) : Ret (cw (.f Q3v) [encS nl (P.map Dec.enc)] s) s (.bool true) := by
 obtain ⟨s1, e1, g1⟩ := Q9m P nl s (by omega) hok
 rw [Qad]
 simp only [TBad.enc, TBad.cells] at e1
 by_cases hz : (rightN (nodesDecs false P) (deepDecs P 0)).kind = 0
 ·have hz0 := Q6Z.1 hz
  have hbz : decide (TBad.mk (rightN (nodesDecs false P) (deepDecs P 0)).kind (rightN (nodesDecs false P) (deepDecs P 0)).at_ (rightN (nodesDecs false P) (deepDecs P 0)).name = TBad.mk 0 0 []) = true := by rw [Qdd]; exact decide_eq_true hz
  have hr : RN (nodesDecs false P) := Qi7 hz0
  have hFR := Qfy (by omega) hz0
  obtain ⟨s2, w2, e2, h2, g2⟩ := Q7G P nl (QbT (by omega) hz0) (by omega) s1
  obtain ⟨s3, w3, e3, h3, g3⟩ := QcQ P nl hFR (by omega) s2
  obtain ⟨q1, q2, q3⟩ := Qiq P startD startD rfl QeJ fun d hd => Qhv (hr.decs d hd)
  have hfit := Qfh P startD hFR QaH
  have hlen := q2.len
  have hlen2 := Qfi P startD
  have hco := Q5F P
  have h6 : startD.length = 6 := rfl
  have e4 := QaE (ofD P startD).1 (ofR P startD).1 w2 w3 h2 h3 (by omega) (q2.size fun p hp => Nat.lt_trans (hfit p hp) (by decide)) s3
  rw [(Qc0 _ _).2 q2] at e4
  obtain ⟨s5, e5, g5⟩ := Q5a s3
  rw [← q1] at e3
  refine ⟨s5, ?_, ((g1.trans g2).trans g3).trans g5⟩
  simp only [TBad.enc, TBad.cells] at e2 e3
  simp only [go_sem, Nat.reduceAdd, Nat.reduceLeDiff, e1, Q9N, hbz, Bool.not_true, e2, e3, e4, e5, TBad.cells, List.map_cons, List.map_nil, Q8C]
 ·obtain ⟨s5, e5, g5⟩ := Q5a s1
  refine ⟨s5, ?_, g1.trans g5⟩
  simp only [go_sem, e1, Q9N, Qdd, decide_eq_false hz, Bool.not_false, e5]
theorem Q9e {k0 : Nat} (P : List Dec) (b : Bool) (g : Dec.sizes P ≤ k0 ∧ ∀ i, ∀ nd ∈ nodesDecs i P, nd.ok) (hb : k0 + 0 ≤ 1048576) : Ret (cw (.f Q3v) [encS b (P.map Dec.enc)] st0) st0 (.bool true) :=
 Q8q P b (by omega) (g.2 false) st0
end Go.Proofs.YtoahliipbclneaaGreat