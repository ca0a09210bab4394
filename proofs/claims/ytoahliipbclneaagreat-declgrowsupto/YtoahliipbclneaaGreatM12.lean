/- A part of the proof: PRef11, PWithin, PRight, PDeclEq, PDecs, SDecl6, SFit. -/
import Derived.Test.YtoahliipbclneaaGreatM8
import Derived.Test.YtoahliipbclneaaGreatM9
import Derived.Test.YtoahliipbclneaaGreatM11
set_option linter.unusedVariables false
set_option linter.unusedSimpArgs false
namespace Go.Proofs.YtoahliipbclneaaGreat
open Go Go.Am
set_option linter.unusedVariables false
def ownP (p : Place) : Place := { p with ty := ownTy p.ty }
def dataR (data : Str) (t : List Place) : List Place := (t.filter fun p => decide (p.data = data)).map ownP
def givenR (nm : Str) : Bool := decide (nm = sInt) || decide (nm = sBool) || decide (nm = sUnit) || decide (nm = sExn) || decide (nm = sRef) || decide (nm = sArrow) || decide (nm = sStar)
def dtR (t : List Place) (nm : Str) : Int × Bool := bif givenR nm then (0, false) else match dataR nm t with
 | [] => (0, false)
 | p :: _ => (p.vars, true)
def wrongR1 (t : List Place) (d : Dec) (u : Ty) : Int × Bool := bif decide (d.kind = 3) && decide (u.name = d.name) then (d.params, true) else dtR t u.name
def wrongR (t : List Place) (d : Dec) (u : Ty) : Int × Str :=
 bif decide (u.kind = 1) then (bif !decide (d.kind = 3) || decide (u.n ≥ d.params) then (16, []) else (0, []))
 else bif givenR u.name then (0, []) else bif !(wrongR1 t d u).2 then (8, u.name) else bif !decide ((u.args.length : Int) = (wrongR1 t d u).1) then (19, u.name) else (0, [])
def firstW (t : List Place) (d : Dec) : List Ty → Int × Str
 | [] => (0, [])
 | u :: l => if (wrongR t d u).1 ≠ 0 then wrongR t d u else firstW t d l
def resR (d : Dec) : Ty := bif decide (d.kind = 4) then ofTy sExn [] else .mk 2 0 d.name (bif decide (d.kind = 3) then varsTy d.params.toNat else []) true
def placeR (t : List Place) (d : Dec) (i : Nat) (c : Con) : Place :=
 ⟨c.name, bif decide (d.kind = 4) then sExn else d.name, bif decide (d.kind = 4) then (exns t : Nat) else (i : Int), bif decide (d.kind = 4) then 0 else (d.cons.length : Int), c.has, bif decide (d.kind = 4) then 0 else d.params, bif c.has then fnTy c.arg (resR d) else resR d⟩
def conBadR (t : List Place) (d : Dec) (out : List Place) (c : Con) : Int × Str :=
 if (findD c.name out).isSome then (9, c.name) else bif decide (d.kind = 4) && decide (((exns t : Nat) : Int) > 1023) then (19, c.name) else bif c.has then firstW t d (preTy c.arg) else (0, [])
def consR (t : List Place) (d : Dec) : List Con → Nat → List Place → List Place × TBad
 | [], _, out => (out, .zero)
 | c :: l, i, out => if (conBadR t d out c).1 ≠ 0 then ([], ⟨(conBadR t d out c).1, c.at_, (conBadR t d out c).2⟩) else consR t d l (i + 1) (out ++ [placeR t d i c])
def addR (t : List Place) (d : Dec) : List Place × TBad :=
 bif !decide (d.kind = 3) && !decide (d.kind = 4) then (t.map ownP, .zero)
 else bif decide (d.kind = 3) && ((dtR t d.name).2 || givenR d.name) then ([], ⟨9, d.at_, d.name⟩)
 else consR t d d.cons 0 (t.map ownP)
def ofR : List Dec → List Place → List Place × TBad
 | [], t => (t, .zero)
 | d :: l, t => if (addR t d).2.kind ≠ 0 then ([], (addR t d).2) else ofR l (addR t d).1
end Go.Proofs.YtoahliipbclneaaGreat
namespace Go.Am
open Go
def Within (l : List TNode) (D : Int) (S : Nat) : Prop := ∀ n ∈ l, (∀ e, n = .exp e → (∃ a b, l = a ++ (nodesExp e ++ b)) ∧ deepExp e ≤ D ∧ e.size ≤ S) ∧ (∀ p, n = .pat p → (∃ a b, l = a ++ (nodesPat p ++ b)) ∧ deepPat p ≤ D ∧ p.size ≤ S)
theorem Within.nil (D : Int) (S : Nat) : Within [] D S := fun n hn => by cases hn
theorem Within.mono {l : List TNode} {D E : Int} {S T : Nat} (h : Within l D S) (hd : D ≤ E) (hs : S ≤ T) : Within l E T := fun n hn => ⟨fun e he => by
 obtain ⟨h1, h2, h3⟩ := (h n hn).1 e he
 exact ⟨h1, by omega, by omega⟩, fun p hp => by
 obtain ⟨h1, h2, h3⟩ := (h n hn).2 p hp
 exact ⟨h1, by omega, by omega⟩⟩
theorem Within.app {l m : List TNode} {D : Int} {S : Nat} (h : Within l D S) (g : Within m D S) : Within (l ++ m) D S := fun n hn => by
 rcases List.mem_append.1 hn with hn | hn
 ·refine ⟨fun e he => ?_, fun p hp => ?_⟩
  ·obtain ⟨⟨a, b, hab⟩, hd⟩ := (h n hn).1 e he
   exact ⟨⟨a, b ++ m, by rw [hab]; simp⟩, hd⟩
  ·obtain ⟨⟨a, b, hab⟩, hd⟩ := (h n hn).2 p hp
   exact ⟨⟨a, b ++ m, by rw [hab]; simp⟩, hd⟩
 ·refine ⟨fun e he => ?_, fun p hp => ?_⟩
  ·obtain ⟨⟨a, b, hab⟩, hd⟩ := (g n hn).1 e he
   exact ⟨⟨l ++ a, b, by rw [hab]; simp⟩, hd⟩
  ·obtain ⟨⟨a, b, hab⟩, hd⟩ := (g n hn).2 p hp
   exact ⟨⟨l ++ a, b, by rw [hab]; simp⟩, hd⟩
theorem Within.cons {l : List TNode} {D : Int} {S : Nat} {n : TNode} (h : Within l D S) (h1 : ∀ e, n = .exp e → n :: l = nodesExp e ∧ deepExp e ≤ D ∧ e.size ≤ S) (h2 : ∀ p, n = .pat p → n :: l = nodesPat p ∧ deepPat p ≤ D ∧ p.size ≤ S) : Within (n :: l) D S := fun m hm => by
 rcases List.mem_cons.1 hm with rfl | hm
 ·exact ⟨fun e he => ⟨⟨[], [], by rw [(h1 e he).1]; simp⟩, (h1 e he).2⟩, fun p hp => ⟨⟨[], [], by rw [(h2 p hp).1]; simp⟩, (h2 p hp).2⟩⟩
 ·refine ⟨fun e he => ?_, fun p hp => ?_⟩
  ·obtain ⟨⟨a, b, hab⟩, hd⟩ := (h m hm).1 e he
   exact ⟨⟨n :: a, b, by rw [hab]; simp⟩, hd⟩
  ·obtain ⟨⟨a, b, hab⟩, hd⟩ := (h m hm).2 p hp
   exact ⟨⟨n :: a, b, by rw [hab]; simp⟩, hd⟩
mutual
theorem QcD (a : Int) (D : Int) (S : Nat) : ∀ t : Ty, Within (nodesTy a t) D S
 | .mk k n s l b => by
   rw [nodesTy]
   exact (QaU a D S l).cons (fun e he => by cases he) (fun p hp => by cases hp)
theorem QaU (a : Int) (D : Int) (S : Nat) : ∀ l : List Ty, Within (nodesTys a l) D S
 | [] => by rw [nodesTys]; exact .nil D S
 | t :: l => by rw [nodesTys]; exact (QcD a D S t).app (QaU a D S l)
end
mutual
theorem Q6B : ∀ t : Pat, Within (nodesPat t) (deepPat t) t.size
 | .mk k a s n l b => by
   have h := Q8V l 0
   rw [nodesPat]
   refine (h.mono (by simp only [deepPat]; omega) (by simp only [Pat.size]; omega)).cons (fun e he => by cases he) (fun p hp => by cases hp; exact ⟨by rw [nodesPat], Int.le_refl _, Nat.le_refl _⟩)
theorem Q8V : ∀ (l : List Pat) (n : Int), Within (nodesPats l) (deepPats l n) (Pat.sizes l)
 | [], n => by rw [nodesPats]; exact .nil _ _
 | t :: l, n => by
   rw [nodesPats, deepPats, Pat.sizes]
   have h1 := (Q5x l (maxI n (deepPat t))).1
   have h2 := ZO n (deepPat t)
   exact ((Q6B t).mono (by omega) (by omega)).app ((Q8V l _).mono (Int.le_refl _) (by omega))
end
theorem Qgl (c : Con) (D : Int) (S : Nat) : Within (nodesCon c) D S := by
 unfold nodesCon
 refine Within.cons ?_ (fun e he => by cases he) (fun p hp => by cases hp)
 cases c.has
 ·exact .nil D S
 ·exact QcD _ D S _
theorem Q8R (D : Int) (S : Nat) : ∀ l : List Con, Within (nodesCons l) D S
 | [] => by rw [nodesCons]; exact .nil D S
 | t :: l => by rw [nodesCons]; exact (Qgl t D S).app (Q8R D S l)
mutual
theorem Q6A : ∀ t : Exp, Within (nodesExp t) (deepExp t) t.size
 | .mk k a s n l lb c cb d db => by
   have h1 := Q8S true d 0
   have h2 := Q8T l (maxI (deepDecs d 0) (deepCases c 0))
   have h3 := Q53 c 0
   have g1 := (Q1Y l (maxI (deepDecs d 0) (deepCases c 0))).1
   have g2 := ZO (deepDecs d 0) (deepCases c 0)
   rw [nodesExp]
   refine Within.cons ((h1.mono ?_ ?_).app ((h2.mono ?_ ?_).app (h3.mono ?_ ?_))) (fun e he => by cases he; exact ⟨by rw [nodesExp], Int.le_refl _, Nat.le_refl _⟩) (fun p hp => by cases hp)
   all_goals simp only [deepExp, Exp.size]; omega
theorem Q8T : ∀ (l : List Exp) (n : Int), Within (nodesExps l) (deepExps l n) (Exp.sizes l)
 | [], n => by rw [nodesExps]; exact .nil _ _
 | t :: l, n => by
   rw [nodesExps, deepExps, Exp.sizes]
   have h1 := (Q1Y l (maxI n (deepExp t))).1
   have h2 := ZO n (deepExp t)
   exact ((Q6A t).mono (by omega) (by omega)).app ((Q8T l _).mono (Int.le_refl _) (by omega))
theorem Qf7 : ∀ c : Case, Within (nodesCase c) (deepCase c) c.size
 | .mk p e => by
   have h1 := Q6B p
   have h2 := Q6A e
   have h3 := ZO 0 (deepPat p)
   have h4 := ZO (maxI 0 (deepPat p)) (deepExp e)
   rw [nodesCase, deepCase, Case.size]
   exact (h1.mono (by omega) (by omega)).app (h2.mono (by omega) (by omega))
theorem Q53 : ∀ (l : List Case) (n : Int), Within (nodesCases l) (deepCases l n) (Case.sizes l)
 | [], n => by rw [nodesCases]; exact .nil _ _
 | .mk p e :: l, n => by
   have h1 := Q6B p
   have h2 := Q6A e
   have h3 := ZO n (deepPat p)
   have h4 := ZO (maxI n (deepPat p)) (deepExp e)
   have h5 := (ZT l (maxI (maxI n (deepPat p)) (deepExp e))).1
   have h6 := Q53 l (maxI (maxI n (deepPat p)) (deepExp e))
   rw [nodesCases, nodesCase, deepCases, Case.sizes, Case.size]
   exact ((h1.mono (by omega) (by omega)).app (h2.mono (by omega) (by omega))).app (h6.mono (Int.le_refl _) (by omega))
theorem Q8S (i : Bool) : ∀ (l : List Dec) (n : Int), Within (nodesDecs i l) (deepDecs l n) (Dec.sizes l)
 | [], n => by rw [nodesDecs]; exact .nil _ _
 | .mk k a s p l lb c cb f fb :: r, n => by
   have h1 := Q53 c 0
   have h2 := Q8U f (deepCases c 0)
   have h3 := fun D S => Q8R D S l
   have h4 := Q8S i r (maxI n (deepCons l (deepFuns f (deepCases c 0)) + 1))
   have g1 := (Q1n f (deepCases c 0)).1
   have g2 := (Q1X l (deepFuns f (deepCases c 0))).1
   have g3 := (Q1m r (maxI n (deepCons l (deepFuns f (deepCases c 0)) + 1))).1
   have g4 := ZO n (deepCons l (deepFuns f (deepCases c 0)) + 1)
   rw [nodesDecs, nodesDec, deepDecs, Dec.sizes, Dec.size]
   exact (Within.cons ((h1.mono (by omega) (by omega)).app ((h2.mono (by omega) (by omega)).app (h3 _ _))) (fun e he => by cases he) (fun p hp => by cases hp)).app (h4.mono (Int.le_refl _) (by omega))
theorem Q8U : ∀ (l : List Fun) (n : Int), Within (nodesFuns l) (deepFuns l n) (Fun.sizes l)
 | [], n => by rw [nodesFuns]; exact .nil _ _
 | .mk s a c :: l, n => by
   have h1 := Qf7 c
   have h2 := Q8U l (maxI n (deepCase c))
   have g1 := (Q1n l (maxI n (deepCase c))).1
   have g2 := ZO n (deepCase c)
   rw [nodesFuns, nodesFun, deepFuns, Fun.sizes, Fun.size]
   exact (Within.cons (h1.mono (by omega) (by omega)) (fun e he => by cases he) (fun p hp => by cases hp)).app (h2.mono (Int.le_refl _) (by omega))
end
theorem Q7o : ∀ l : List TNode, firstBad l = .zero → ∀ n ∈ l, n.bad.kind = 0
 | [], _, n, hn => by cases hn
 | u :: l, h, n, hn => by
   rw [firstBad] at h
   by_cases hu : u.bad.kind = 0
   ·rw [decide_eq_true hu, cond_true] at h
    rcases List.mem_cons.1 hn with rfl | hn
    ·exact hu
    ·exact Q7o l h n hn
   ·rw [decide_eq_false hu, cond_false] at h
    rw [h] at hu
    exact absurd rfl hu
end Go.Am
namespace Go.Am
open Go
set_option linter.unusedVariables false
theorem QeY {l : List TNode} {D : Int} (h : rightN l D = .zero) : firstBad l = .zero := by
 unfold rightN at h
 cases h1 : decide (countN l > 8192) with
 | true => rw [h1, cond_true] at h; cases h
 | false =>
   rw [h1, cond_false] at h
   cases h2 : decide (D > 100) with
   | true => rw [h2, cond_true] at h; cases h
   | false => rw [h2, cond_false] at h; exact h
theorem wrong0 {n : TNode} (h : n.bad.kind = 0) : n.wrong.1 = 0 := by
 unfold TNode.bad mkBad at h
 by_cases e : n.wrong.1 = 0
 ·exact e
 ·rw [decide_eq_false e, cond_false] at h; exact h
theorem Q8H {l : List TNode} {D : Int} (h : rightN l D = .zero) : ∀ n ∈ l, n.wrong.1 = 0 := fun n hn => wrong0 (Q7o l (QeY h) n hn)
theorem Q6I : ∀ l : List TNode, (firstBad l).kind = 0 → firstBad l = .zero
 | [], _ => rfl
 | n :: l, h => by
   rw [firstBad] at h ⊢
   by_cases e : n.bad.kind = 0
   ·rw [decide_eq_true e, cond_true] at h ⊢; exact Q6I l h
   ·rw [decide_eq_false e, cond_false] at h; exact absurd h e
theorem Q6v {l : List TNode} {D : Int} : (rightN l D).kind = 0 ↔ rightN l D = .zero := by
 constructor
 ·unfold rightN
  cases decide (countN l > 8192) with
  | true => intro h; cases h
  | false =>
    cases decide (D > 100) with
    | true => intro h; cases h
    | false => exact Q6I l
 ·intro h; rw [h]; rfl
structure DecIs (k : Int) (nm : Str) (p nl nc nf : Int) (inn : Bool) : Prop where
 kind : k = 1 ∨ k = 2 ∨ k = 3 ∨ k = 4
 val : k = 1 → nc = 1 ∧ ¬ nf > 0 ∧ ¬ nl > 0
 fn : k = 2 → ¬ nc > 0 ∧ ¬ nl > 0 ∧ nf > 0
 data : k = 3 → ¬ nc > 0 ∧ ¬ nf > 0 ∧ 0 ≤ p ∧ p ≤ 8 ∧ lowB nm = true ∧ nl > 0 ∧ nl ≤ 64
 exn : k = 4 → ¬ nc > 0 ∧ ¬ nf > 0 ∧ nl = 1
 bare : k ≠ 3 → p = 0 ∧ nm = []
 inn : inn = true → k = 1 ∨ k = 2
theorem Qjs {k : Int} {nm : Str} {p nl nc nf : Int} {inn : Bool} (h : wrongDecC k nm p nl nc nf inn = 0) : DecIs k nm p nl nc nf inn := by
 unfold wrongDecC at h
 by_cases h1 : k = 1
 ·subst h1
  simp only [decide_true, cond_true, Int.reduceEq, decide_false, cond_false] at h
  grind [DecIs]
 ·by_cases h2 : k = 2
  ·subst h2
   simp only [decide_true, cond_true, Int.reduceEq, decide_false, cond_false] at h
   grind [DecIs]
  ·by_cases h3 : k = 3
   ·subst h3
    simp only [decide_true, cond_true, Int.reduceEq, decide_false, cond_false] at h
    grind [DecIs]
   ·by_cases h4 : k = 4
    ·subst h4
     simp only [decide_true, cond_true, Int.reduceEq, decide_false, cond_false] at h
     grind [DecIs]
    ·simp only [decide_eq_false h1, decide_eq_false h2, decide_eq_false h3, decide_eq_false h4, cond_false, Bool.not_false, Bool.true_or, cond_true] at h
     cases h
theorem Qdo {d : Dec} {inn : Bool} (h : wrongDecB d inn = 0) : DecIs d.kind d.name d.params d.cons.length d.case.length d.funs.length inn := Qjs h
theorem len0 {α : Type} {l : List α} (h : ¬ ((l.length : Int) > 0)) : l = [] := List.eq_nil_of_length_eq_zero (by omega)
theorem QoP {t : Ty} (h : wrongTyB t = 0) : (t.kind = 1 ∨ t.kind = 2) ∧ (t.kind = 1 → t.args = [] ∧ 0 ≤ t.n ∧ t.name = []) ∧ (t.kind = 2 → t.n = 0) := by
 unfold wrongTyB wrongTyC at h
 have : ¬ ((t.args.length : Int) > 0) → t.args = [] := len0
 grind
end Go.Am
namespace Go.Proofs.YtoahliipbclneaaGreat
open Go Go.Am
set_option linter.unusedVariables false
def TabEq (t u : List Place) : Prop := t.map ownP = u.map ownP
theorem Qcn : ∀ t : Ty, ownTy (ownTy t) = ownTy t ∧ True := fun t => ⟨own1 t, trivial⟩
where
 own1 : ∀ t : Ty, ownTy (ownTy t) = ownTy t
 | .mk k n s l b => by simp only [ownTy, ownTys_own l]
 ownTys_own : ∀ l : List Ty, ownTys (ownTys l) = ownTys l
 | [] => rfl
 | t :: l => by simp only [ownTys, own1 t, ownTys_own l]
theorem Qiw (p : Place) : ownP (ownP p) = ownP p := by simp only [ownP, (Qcn p.ty).1]
theorem TabEq.own (t : List Place) : TabEq t (t.map ownP) := by
 unfold TabEq
 rw [List.map_map]
 exact List.map_congr_left fun p _ => (Qiw p).symm
theorem TabEq.symm {t u : List Place} (h : TabEq t u) : TabEq u t := Eq.symm h
theorem TabEq.trans {t u w : List Place} (h : TabEq t u) (k : TabEq u w) : TabEq t w := Eq.trans h k
theorem TabEq.app {t u a b : List Place} (h : TabEq t u) (k : TabEq a b) : TabEq (t ++ a) (u ++ b) := by
 unfold TabEq at *
 rw [List.map_append, List.map_append, h, k]
theorem TabEq.map {α : Type} {t u : List Place} (h : TabEq t u) (f : Place → α) (hf : ∀ p, f (ownP p) = f p) : t.map f = u.map f := by
 have h1 : ∀ l : List Place, l.map f = (l.map ownP).map f := fun l => by
  rw [List.map_map]; exact List.map_congr_left fun p _ => (hf p).symm
 rw [h1 t, h1 u, h]
theorem TabEq.names {t u : List Place} (h : TabEq t u) : t.map Place.name = u.map Place.name := h.map _ fun _ => rfl
theorem TabEq.len {t u : List Place} (h : TabEq t u) : t.length = u.length := by
 have := congrArg List.length h
 simpa using this
def varsOf (nm : Str) : List (Str × Int) → Option Int
 | [] => none
 | p :: l => if p.1 = nm then some p.2 else varsOf nm l
def dv (t : List Place) : List (Str × Int) := t.map fun p => (p.data, p.vars)
theorem TabEq.dv {t u : List Place} (h : TabEq t u) : dv t = dv u := h.map _ fun _ => rfl
theorem Qhd (nm : Str) : known0 nm = bif givenR nm then some (-1) else none := by
 unfold known0 givenR upd
 by_cases h1 : nm = sStar
 ·simp [h1]
 ·by_cases h2 : nm = sArrow
  ·simp [h2]
  ·by_cases h3 : nm = sRef
   ·simp [h3]
   ·by_cases h4 : nm = sExn
    ·simp [h4]
    ·by_cases h5 : nm = sUnit
     ·simp [h5]
     ·by_cases h6 : nm = sBool
      ·simp [h6]
      ·by_cases h7 : nm = sInt
       ·simp [h7]
       ·simp [h1, h2, h3, h4, h5, h6, h7]
theorem QdM (g : Str → Option Int) (p : Place) (nm : Str) : knownStep g p nm = match g nm with | some v => some v | none => if p.data = nm then some p.vars else none := by
 unfold knownStep
 by_cases h : nm = p.data
 ·subst h
  cases hg : g p.data with
  | none => simp [upd]
  | some v => simp [hg]
 ·cases hg : g p.data with
  | none =>
    simp only []
    rw [Qel _ _ h]
    cases g nm with
    | none => simp [Ne.symm h]
    | some v => rfl
  | some v =>
    simp only []
    cases g nm with
    | none => simp [Ne.symm h]
    | some v => rfl
theorem Qa5 (nm : Str) : ∀ (t : List Place) (g : Str → Option Int), t.foldl knownStep g nm = match g nm with | some v => some v | none => varsOf nm (dv t)
 | [], g => by simp only [List.foldl_nil, dv, List.map_nil, varsOf]; cases g nm <;> rfl
 | p :: t, g => by
   rw [List.foldl_cons, Qa5 nm t (knownStep g p), QdM]
   cases g nm with
   | some v => rfl
   | none =>
     simp only [dv, List.map_cons, varsOf]
     by_cases h : p.data = nm
     ·simp [h]
     ·simp [h]
theorem Q5j (t : List Place) (nm : Str) : knownD t nm = bif givenR nm then some (-1) else varsOf nm (dv t) := by
 rw [knownD, Qa5, Qhd]
 cases givenR nm <;> rfl
theorem Q9J (nm : Str) : ∀ t : List Place, (match dataR nm t with | [] => none | p :: _ => some p.vars) = varsOf nm (dv t)
 | [] => rfl
 | p :: t => by
   by_cases h : p.data = nm
   ·simp [dataR, dv, varsOf, h, ownP]
   ·have := Q9J nm t
    simp only [dataR, dv, List.map_cons, varsOf, h, decide_false, List.filter_cons, if_false] at this ⊢
    simpa using this
theorem QgU (t : List Place) (nm : Str) : dtR t nm = bif givenR nm then (0, false) else match varsOf nm (dv t) with | none => (0, false) | some v => (v, true) := by
 unfold dtR
 cases givenR nm with
 | true => rfl
 | false =>
   rw [← Q9J]
   simp only [cond_false]
   cases dataR nm t <;> rfl
theorem Q80 (t : List Place) : exns t = ((dv t).filter fun p => decide (p.1 = sExn)).length := by
 unfold exns dv
 rw [List.filter_map, List.length_map]; rfl
theorem QaS {nm : Str} {v : Int} : ∀ {l : List (Str × Int)}, varsOf nm l = some v → ∃ p ∈ l, p.2 = v
 | [], h => by cases h
 | p :: l, h => by
   simp only [varsOf] at h
   split at h
   ·cases h; exact ⟨p, List.mem_cons_self, rfl⟩
   ·obtain ⟨q, hq, e⟩ := QaS h; exact ⟨q, List.mem_cons_of_mem _ hq, e⟩
theorem Qa1 (t : List Place) (d : Dec) : ∀ (a b : List Ty), firstW t d (a ++ b) = if (firstW t d a).1 ≠ 0 then firstW t d a else firstW t d b
 | [], b => by simp [firstW]
 | u :: a, b => by
   simp only [List.cons_append, firstW, Qa1 t d a b]
   by_cases h : (wrongR t d u).1 = 0
   ·simp [h]
   ·simp [h]
def TyIs (t : Ty) : Prop := ∀ u ∈ preTy t, u.kind = 1 → u.args = [] ∧ 0 ≤ u.n
theorem Qao : ∀ {l : List Ty} {w u : Ty}, w ∈ l → u ∈ preTy w → u ∈ preTys l
 | x :: l, w, u, h, hu => by
   simp only [preTys, List.mem_append]
   rcases List.mem_cons.1 h with rfl | h
   ·exact .inl hu
   ·exact .inr (Qao h hu)
structure WH (u : List Place) (d : Dec) (g : Str → Option Int) (vars : Int) : Prop where
 hk : ∀ v : Ty, v.kind = 1 → 0 ≤ v.n → (wrongR u d v = if v.n ≥ vars then (16, []) else (0, []))
 hg : ∀ v : Ty, v.kind ≠ 1 → wrongR u d v = match g v.name with | none => (8, v.name) | some m => if m ≥ 0 ∧ m ≠ (v.args.length : Int) then (19, v.name) else (0, [])
mutual
theorem Qeq {u : List Place} {d : Dec} {g : Str → Option Int} {vars : Int} (H : WH u d g vars) : ∀ v : Ty, TyIs v → wrongD g vars v = firstW u d (preTy v)
 | .mk k n nm l b, hT => by
   have h0 := hT (.mk k n nm l b) (by simp only [preTy]; exact List.mem_cons_self)
   simp only [Ty.kind, Ty.args, Ty.n] at h0
   simp only [preTy, wrongD]
   by_cases h1 : k = 1
   ·obtain ⟨rfl, hn⟩ := h0 h1
    subst h1
    have := H.hk (.mk 1 n nm [] b) rfl hn
    simp only [preTys, firstW, this, Ty.n, if_true]
    by_cases hv : n ≥ vars
    ·simp [hv]
    ·simp [hv]
   ·have := H.hg (.mk k n nm l b) h1
    have hl := QcE H l (fun w hw u hu => hT u (by simp only [preTy]; exact List.mem_cons_of_mem _ (Qao hw hu)))
    simp only [Ty.name, Ty.args] at this
    simp only [firstW, this, h1, if_false]
    cases g nm with
    | none => simp
    | some m =>
      simp only
      by_cases hm : m ≥ 0 ∧ m ≠ (l.length : Int)
      ·simp [hm]
      ·simp only [hm, if_false, ne_eq, not_true_eq_false]
       exact hl
theorem QcE {u : List Place} {d : Dec} {g : Str → Option Int} {vars : Int} (H : WH u d g vars) : ∀ l : List Ty, (∀ v ∈ l, TyIs v) → wrongsD g vars l = firstW u d (preTys l)
 | [], _ => by simp only [wrongsD, preTys, firstW]
 | v :: l, hT => by
   simp only [wrongsD, preTys, Qa1, Qeq H v (hT v List.mem_cons_self), QcE H l fun w hw => hT w (List.mem_cons_of_mem _ hw)]
end
theorem Qgi (n : Nat) : (varsTy n).map ownTy = varsTy n := by
 unfold varsTy
 rw [List.map_map]
 exact List.map_congr_left fun i _ => rfl
theorem Qap : ∀ l : List Nat, (chTys (toPut []) (l.map fun i : Nat => tvar (i : Int)) ()).1 = l.map fun i : Nat => tvar (i : Int)
 | [] => rfl
 | i :: l => by
   have h : chTy (toPut []) (tvar (i : Int)) () = (tvar (i : Int), ()) := by
    simp only [tvar, chTy, decide_true, cond_true, toPut, List.length_nil]
    rw [if_neg (by omega)]
   simp only [List.map_cons, chTys, h, Qap l]
theorem Q96 (d : Dec) (hk : d.kind = 3 ∨ d.kind = 4) : (headD d).1 = resR d := by
 unfold headD resR
 rcases hk with h | h
 ·simp only [h, Int.reduceEq, decide_false, decide_true, cond_false, cond_true, ofTy, Qgi]
 ·simp only [h, decide_true, cond_true]
theorem Qbk (d : Dec) (hk : d.kind = 3 ∨ d.kind = 4) : putTy (resR d) [] = resR d := by
 unfold resR putTy
 rcases hk with h | h
 ·simp only [h, Int.reduceEq, decide_false, decide_true, cond_false, cond_true, chTy, varsTy, Qap]
 ·simp only [h, decide_true, cond_true, ofTy, List.map_nil, chTy, Int.reduceEq, decide_false, cond_false, chTys]
theorem Q7n (nm : Str) : ∀ l : List Place, (findD nm l).isSome = decide (nm ∈ l.map Place.name)
 | [] => rfl
 | p :: l => by
   simp only [findD, List.map_cons, List.mem_cons]
   by_cases h : p.name = nm
   ·simp [h]
   ·rw [if_neg h, Q7n nm l]
    simp [Ne.symm h]
structure DecOK (d : Dec) : Prop where
 kind : d.kind = 1 ∨ d.kind = 2 ∨ d.kind = 3 ∨ d.kind = 4
 data : d.kind = 3 → 0 ≤ d.params
 exn : d.kind = 4 → d.cons.length = 1
 arg : ∀ c ∈ d.cons, c.has = true → TyIs c.arg
theorem Qgo {t u : List Place} (h : TabEq t u) (hv : ∀ p ∈ t, 0 ≤ p.vars) (d : Dec) (g : Str → Option Int) (vars : Int) (hd : d.kind = 3 ∧ vars = d.params ∧ 0 ≤ d.params ∧ g = upd (knownD t) d.name d.params ∧ givenR d.name = false ∨ d.kind = 4 ∧ vars = 0 ∧ g = knownD t) (c : Con) (hT : TyIs c.arg) : wrongD g vars c.arg = firstW u d (preTy c.arg) := by
 have dpos : ∀ nm m, varsOf nm (dv t) = some m → 0 ≤ m := fun nm m e => by
  obtain ⟨p, hp, rfl⟩ := QaS e
  obtain ⟨q, hq, rfl⟩ := List.mem_map.1 hp
  exact hv q hq
 refine Qeq ⟨fun v h1 hn => ?_, fun v h1 => ?_⟩ c.arg hT
 ·unfold wrongR
  rw [decide_eq_true h1, cond_true]
  rcases hd with ⟨k3, rfl, -, -, -⟩ | ⟨k4, rfl, -⟩
  ·rw [decide_eq_true k3]
   by_cases hh : v.n ≥ d.params
   ·simp [hh]
   ·simp [hh]
  ·rw [decide_eq_false (by omega)]
   simp [hn]
 ·unfold wrongR wrongR1
  rw [decide_eq_false h1, cond_false, QgU, ← h.dv]
  rcases hd with ⟨k3, rfl, hp, rfl, hgn⟩ | ⟨k4, rfl, rfl⟩
  ·rw [decide_eq_true k3, Bool.true_and]
   by_cases hnm : v.name = d.name
   ·rw [hnm, Qem, hgn, decide_eq_true rfl]
    simp only [cond_false, cond_true, Bool.not_true]
    by_cases hl : (v.args.length : Int) = d.params
    ·have : ¬ (d.params ≥ 0 ∧ d.params ≠ (v.args.length : Int)) := fun hx => hx.2 hl.symm
     simp only [hl, this, decide_true, Bool.not_true, cond_false, if_false]
     simp
    ·have : d.params ≥ 0 ∧ d.params ≠ (v.args.length : Int) := ⟨hp, fun e => hl e.symm⟩
     simp only [decide_eq_false hl, Bool.not_false, cond_true, this, if_true]
     simp [hp, this.2]
   ·rw [Qel _ _ hnm, Q5j, decide_eq_false hnm, cond_false]
    cases hgv : givenR v.name with
    | true => simp
    | false =>
      simp only [cond_false]
      cases hm : varsOf v.name (dv t) with
      | none => simp
      | some m =>
        have := dpos _ _ hm
        by_cases hl : (v.args.length : Int) = m
        ·simp [hl]
        ·have hx : ¬ m = (v.args.length : Int) := fun e => hl e.symm
         simp [hl, hx, this]
  ·rw [decide_eq_false (by omega), Bool.false_and, cond_false, Q5j]
   cases hgv : givenR v.name with
   | true => simp
   | false =>
     simp only [cond_false]
     cases hm : varsOf v.name (dv t) with
     | none => simp
     | some m =>
       have := dpos _ _ hm
       by_cases hl : (v.args.length : Int) = m
       ·simp [hl]
       ·have hx : ¬ m = (v.args.length : Int) := fun e => hl e.symm
        simp [hl, hx, this]
theorem Qb4 {t u : List Place} (h : TabEq t u) (hv : ∀ p ∈ t, 0 ≤ p.vars) (d : Dec) (hk : d.kind = 3 ∨ d.kind = 4) (g : Str → Option Int) (vars : Int) (data : Str) (of_ : Int) (tag0 : Int)
  (hd : d.kind = 3 ∧ vars = d.params ∧ 0 ≤ d.params ∧ g = upd (knownD t) d.name d.params ∧ givenR d.name = false ∧ data = d.name ∧ of_ = d.cons.length ∧ tag0 = 0 ∨ d.kind = 4 ∧ vars = 0 ∧ g = knownD t ∧ data = sExn ∧ of_ = 0 ∧ tag0 = (exns t : Nat)) :
  ∀ (l : List Con) (i : Nat) (out outR : List Place), (∀ c ∈ l, c.has = true → TyIs c.arg) → (d.kind = 4 → i + l.length ≤ 1) → TabEq out outR → (∀ p ∈ out, 0 ≤ p.vars) →
    (consD d.kind g (resR d) vars data of_ l (out.map Place.name) (tag0 + i) out).2 = (consR u d l i outR).2 ∧ TabEq (consD d.kind g (resR d) vars data of_ l (out.map Place.name) (tag0 + i) out).1 (consR u d l i outR).1 ∧ ∀ p ∈ (consD d.kind g (resR d) vars data of_ l (out.map Place.name) (tag0 + i) out).1, 0 ≤ p.vars
 | [], i, out, outR, hT, h4, ho, hvo => ⟨rfl, ho, hvo⟩
 | c :: l, i, out, outR, hT, h4, ho, hvo => by
   have hex : exns u = exns t := by rw [Q80, Q80, h.dv]
   have hx0 : d.kind = 4 → i = 0 := fun hh => by have := h4 hh; simp only [List.length_cons] at this; omega
   have hb : (conBad d.kind g vars (tag0 + i) (out.map Place.name) c).1 = (conBadR u d outR c).1 ∧ ((conBad d.kind g vars (tag0 + i) (out.map Place.name) c).1 ≠ 0 → conBad d.kind g vars (tag0 + i) (out.map Place.name) c = conBadR u d outR c) := by
    unfold conBad conBadR
    rw [Q7n, ← ho.names]
    by_cases hm : c.name ∈ out.map Place.name
    ·simp [hm]
    ·rw [if_neg hm, decide_eq_false hm]
     simp only [Bool.false_eq_true, if_false]
     have htag : (decide (d.kind = 4) && decide (tag0 + (i : Int) > 1023)) = (decide (d.kind = 4) && decide (((exns u : Nat) : Int) > 1023)) := by
      by_cases hh : d.kind = 4
      ·rcases hd with ⟨k3, -⟩ | ⟨-, -, -, -, -, rfl⟩
       ·omega
       ·rw [hx0 hh, hex]; simp
      ·simp [hh]
     rw [htag]
     cases (decide (d.kind = 4) && decide (((exns u : Nat) : Int) > 1023)) with
     | true => exact ⟨rfl, fun _ => rfl⟩
     | false =>
       simp only [cond_false]
       cases hc : c.has with
       | false => exact ⟨rfl, fun hx => absurd rfl hx⟩
       | true =>
         simp only [cond_true]
         have hw := Qgo h hv d g vars (hd.imp (fun x => ⟨x.1, x.2.1, x.2.2.1, x.2.2.2.1, x.2.2.2.2.1⟩) fun x => ⟨x.1, x.2.1, x.2.2.1⟩) c (hT c List.mem_cons_self hc)
         rw [hw]
         by_cases hz : (firstW u d (preTy c.arg)).1 = 0
         ·rw [if_neg (by simpa using hz)]
          exact ⟨hz.symm, fun hx => absurd rfl hx⟩
         ·rw [if_pos (by simpa using hz)]
          exact ⟨rfl, fun _ => rfl⟩
   simp only [consD, consR]
   by_cases hz : (conBad d.kind g vars (tag0 + i) (out.map Place.name) c).1 = 0
   ·rw [if_neg (by simpa using hz), if_neg (by rw [← hb.1]; simpa using hz)]
    have hp : conPlace (resR d) vars data (tag0 + i) of_ c = placeR u d i c := by
     unfold conPlace placeR
     rw [Qbk d hk]
     rcases hd with ⟨k3, rfl, -, -, -, rfl, rfl, rfl⟩ | ⟨k4, rfl, -, rfl, rfl, rfl⟩
     ·simp [k3]
     ·rw [hx0 k4, hex]; simp [k4]
    have hpv : 0 ≤ (placeR u d i c).vars := by
     rw [← hp]
     simp only [conPlace]
     rcases hd with ⟨k3, rfl, hh, -⟩ | ⟨k4, rfl, -⟩
     ·exact hh
     ·exact Int.le_refl _
    have ih := Qb4 h hv d hk g vars data of_ tag0 hd l (i + 1) (out ++ [placeR u d i c]) (outR ++ [placeR u d i c]) (fun c hc => hT c (List.mem_cons_of_mem _ hc)) (fun hh => by have := h4 hh; simp only [List.length_cons] at this; omega) (ho.app rfl) (fun p hp' => by
     rcases List.mem_append.1 hp' with hp' | hp'
     ·exact hvo p hp'
     ·simp only [List.mem_singleton] at hp'; subst hp'; exact hpv)
    have e1 : tag0 + (i : Int) + 1 = tag0 + ((i + 1 : Nat) : Int) := by omega
    have e2 : out.map Place.name ++ [c.name] = (out ++ [placeR u d i c]).map Place.name := by rw [List.map_append]; rfl
    rw [hp, e1, e2]
    exact ih
   ·rw [if_pos (by simpa using hz), if_pos (by rw [← hb.1]; simpa using hz), hb.2 hz]
    exact ⟨rfl, rfl, by simp⟩
theorem Qdh {t u : List Place} (h : TabEq t u) (hv : ∀ p ∈ t, 0 ≤ p.vars) (d : Dec) (hd : DecOK d) : (addD t d).2 = (addR u d).2 ∧ TabEq (addD t d).1 (addR u d).1 ∧ ∀ p ∈ (addD t d).1, 0 ≤ p.vars := by
 unfold addD addR
 have hex : exns u = exns t := by rw [Q80, Q80, h.dv]
 by_cases h3 : d.kind = 3
 ·rw [decide_eq_true h3]
  have hp := hd.data h3
  simp only [cond_true, Bool.not_true, Bool.false_and, cond_false, Bool.true_and]
  have hkn : (knownD t d.name).isSome = ((dtR u d.name).2 || givenR d.name) := by
   rw [Q5j, QgU, ← h.dv]
   cases givenR d.name with
   | true => rfl
   | false =>
     simp only [cond_false, Bool.or_false]
     cases varsOf d.name (dv t) <;> rfl
  rw [hkn]
  cases hx : ((dtR u d.name).2 || givenR d.name) with
  | true => exact ⟨rfl, rfl, by simp⟩
  | false =>
    simp only [Bool.or_eq_false_iff] at hx
    simp only [cond_false]
    have := Qb4 h hv d (.inl h3) (upd (knownD t) d.name d.params) d.params d.name d.cons.length 0 (.inl ⟨h3, rfl, hp, rfl, hx.2, rfl, rfl, rfl⟩) d.cons 0 t (u.map ownP) hd.arg (fun hh => by omega) (h.trans (TabEq.own u)) hv
    rw [Q96 d (.inl h3)]
    have hh2 : (headD d).2 = d.params := by simp [headD, h3]
    rw [hh2]
    simp only [h3] at this
    exact this
 ·rw [decide_eq_false h3]
  simp only [cond_false, Bool.not_false, Bool.true_and, Bool.false_and]
  by_cases h4 : d.kind = 4
  ·rw [decide_eq_true h4]
   simp only [cond_true, Bool.not_true, cond_false]
   have := Qb4 h hv d (.inr h4) (knownD t) 0 sExn 0 (exns t : Nat) (.inr ⟨h4, rfl, rfl, rfl, rfl, rfl⟩) d.cons 0 t (u.map ownP) hd.arg (fun _ => by have := hd.exn h4; omega) (h.trans (TabEq.own u)) hv
   rw [Q96 d (.inr h4)]
   have hh2 : (headD d).2 = 0 := by simp [headD, h4]
   rw [hh2]
   simp only [h4, Int.natCast_zero, Int.add_zero] at this
   exact this
  ·rw [decide_eq_false h4]
   simp only [cond_false, Bool.not_false, cond_true]
   exact ⟨trivial, h.trans (TabEq.own u), hv⟩
theorem QiX : ∀ (P : List Dec) (t u : List Place), TabEq t u → (∀ p ∈ t, 0 ≤ p.vars) → (∀ d ∈ P, DecOK d) → (ofD P t).2 = (ofR P u).2 ∧ TabEq (ofD P t).1 (ofR P u).1 ∧ ∀ p ∈ (ofD P t).1, 0 ≤ p.vars
 | [], t, u, h, hv, _ => ⟨rfl, h, hv⟩
 | d :: P, t, u, h, hv, hd => by
   obtain ⟨h1, h2, h3⟩ := Qdh h hv d (hd d List.mem_cons_self)
   simp only [ofD, ofR, ← h1]
   split
   ·exact ⟨rfl, rfl, by simp⟩
   ·exact QiX P _ _ h2 h3 fun q hq => hd q (List.mem_cons_of_mem _ hq)
end Go.Proofs.YtoahliipbclneaaGreat
namespace Go.Proofs.YtoahliipbclneaaGreat
open Go Go.Am
set_option linter.unusedVariables false
def conD (p : Place) : Con := ⟨p.name, 0, p.has, bif p.has && decide ((p.ty.args.length : Int) = 2) then p.ty.args.headD .zero else .zero⟩
def conR (p : Place) : Con := ⟨p.name, 0, p.has, bif p.has && decide ((p.ty.args.length : Int) > 0) then p.ty.args.headD .zero else .zero⟩
def exnDec (c : Con) : Dec := .mk 4 0 [] 0 [c] false [] true [] true
def dataDec (nm : Str) (p : Int) (cs : List Con) : Dec := .mk 3 0 nm p cs false [] true [] true
def mkD (x : Place) : Dec := bif decide (x.data = sExn) then exnDec (conD x) else dataDec x.data x.vars [conD x]
def addCon (d : Dec) (c : Con) : Dec := .mk d.kind d.at_ d.name d.params (d.cons ++ [c]) d.nb d.case d.cb d.funs d.fb
def joins (x : Place) (d : Dec) : Bool := !decide (x.data = sExn) && decide (d.kind = 3) && decide (d.name = x.data)
def stepD (p : List Dec) (x : Place) : List Dec := match p.getLast? with
 | some d => bif joins x d then p.dropLast ++ [addCon d (conD x)] else p ++ [mkD x]
 | none => p ++ [mkD x]
def decsD (t : List Place) : List Dec := (t.drop 6).foldl stepD []
theorem Q5o (x : Place) : stepD [] x = [mkD x] := rfl
theorem Q1C (p : List Dec) (d : Dec) (x : Place) : stepD (p ++ [d]) x = bif joins x d then p ++ [addCon d (conD x)] else p ++ [d] ++ [mkD x] := by
 simp only [stepD, List.getLast?_append, List.getLast?_singleton, Option.some_or, List.dropLast_concat]
def eqPl (p q : Place) : Bool := decide (p.name = q.name) && decide (p.data = q.data) && decide (p.tag = q.tag) && decide (p.of_ = q.of_) && (p.has == q.has) && decide (p.vars = q.vars) && eqTy p.ty q.ty
def eqTab : List Place → List Place → Bool
 | [], [] => true
 | p :: t, q :: u => eqPl p q && eqTab t u
 | _, _ => false
def okD (d : Dec) : Bool := decide ((rightN (nodesDecs false [d]) (deepDecs [d] 0)).kind = 0)
def rightTD (t : List Place) : Bool := !decide ((t.length : Int) < 6) && ((decsD t).all okD && (decide ((ofD (decsD t) startD).2.kind = 0) && eqTab t (ofD (decsD t) startD).1))
theorem Q7k : ∀ {t u : List Place}, eqTab t u = true → t.length = u.length
 | [], [], _ => rfl
 | p :: t, q :: u, h => by
   simp only [eqTab, Bool.and_eq_true] at h
   simp only [List.length_cons, Q7k h.2]
 | [], q :: u, h => by cases h
 | p :: t, [], h => by cases h
def formD (d : Dec) : Prop := d.nb = false ∧ d.case = [] ∧ d.cb = true ∧ d.funs = [] ∧ d.fb = true
theorem Qfl (x : Place) : formD (mkD x) := by
 unfold mkD
 cases decide (x.data = sExn) <;> exact ⟨rfl, rfl, rfl, rfl, rfl⟩
theorem QdB {d : Dec} (h : formD d) (c : Con) : formD (addCon d c) := h
def PlaceOK (p : Place) : Prop := p.name.length < 2^40 ∧ p.data.length < 2^40 ∧ NamesTy p.ty
def Place.sizes : List Place → Nat
 | [] => 0
 | p :: t => p.ty.size + 1 + Place.sizes t
theorem Place.len_sizes : ∀ t : List Place, t.length ≤ Place.sizes t
 | [] => Nat.le_refl _
 | p :: t => by have := Place.len_sizes t; simp only [Place.sizes, List.length_cons]; omega
theorem Place.mem_sizes : ∀ {t : List Place} {p : Place}, p ∈ t → p.ty.size + 1 ≤ Place.sizes t
 | x :: l, t, h => by
   simp only [Place.sizes]
   rcases List.mem_cons.1 h with rfl | h
   ·omega
   ·have := Place.mem_sizes h; omega
theorem Place.sizes_app (a b : List Place) : Place.sizes (a ++ b) = Place.sizes a + Place.sizes b := by
 induction a with
 | nil => simp [Place.sizes]
 | cons p a ih => simp only [List.cons_append, Place.sizes, ih]; omega
theorem Place.sizes_drop (t : List Place) (n : Nat) : Place.sizes (t.drop n) ≤ Place.sizes t := by
 have := Place.sizes_app (t.take n) (t.drop n)
 rw [List.take_append_drop] at this; omega
def DGood (d : Dec) : Prop := formD d ∧ d.name.length < 2^40 ∧ ∀ c ∈ d.cons, c.name.length < 2^40 ∧ NamesTy c.arg
theorem Qg6 : NamesTy .zero := by
 intro n hn
 simp only [Ty.zero, nodesTy, nodesTys, List.mem_cons, List.not_mem_nil, or_false] at hn
 subst hn
 simp [TNode.ok, Ty.name]
theorem Qdl (p : Place) : (conD p).arg = .zero ∨ (conD p).arg ∈ p.ty.args := by
 unfold conD
 cases p.has with
 | false => exact .inl rfl
 | true =>
   by_cases h : (p.ty.args.length : Int) = 2
   ·simp only [h, decide_true, Bool.and_self, cond_true]
    cases ha : p.ty.args with
    | nil => rw [ha] at h; simp at h
    | cons a l => exact .inr (by simp)
   ·left; simp only [h, decide_false, Bool.and_false, cond_false]
theorem QhQ {p : Place} {c : Con} (h : c.arg = .zero ∨ c.arg ∈ p.ty.args) : c.size ≤ p.ty.size + 1 := by
 have h1 : 1 ≤ p.ty.size := by cases p.ty; simp only [Ty.size]; omega
 simp only [Con.size]
 rcases h with h | h
 ·rw [h]; simp only [Ty.zero, Ty.size, Ty.sizes]; omega
 ·have := Ty.mem_sizes h
  have : p.ty.size = Ty.sizes p.ty.args + 1 := by cases p.ty; simp only [Ty.size, Ty.args]
  omega
theorem QbO (p : Place) : (conD p).size ≤ p.ty.size + 1 := QhQ (Qdl p)
theorem QgG {p : Place} {c : Con} (h : NamesTy p.ty) (e : c.arg = .zero ∨ c.arg ∈ p.ty.args) : NamesTy c.arg := by
 rcases e with e | e
 ·rw [e]; exact Qg6
 ·generalize c.arg = u at e
  cases ht : p.ty with
  | mk k n s l b => rw [ht] at e h; exact h.arg e
theorem Q9H {p : Place} (h : NamesTy p.ty) : NamesTy (conD p).arg := QgG h (Qdl p)
theorem Qfp {p : Place} (h : PlaceOK p) : DGood (mkD p) := by
 obtain ⟨h1, h2, h3⟩ := h
 refine ⟨Qfl p, ?_, fun c hc => ?_⟩
 ·unfold mkD; cases decide (p.data = sExn)
  ·exact h2
  ·show ([] : Str).length < _; decide
 ·have : c = conD p := by
   revert hc; unfold mkD; cases decide (p.data = sExn) <;> exact fun hc => by simpa [exnDec, dataDec, Dec.cons] using hc
  subst this
  exact ⟨h1, Q9H h3⟩
theorem Qia {d : Dec} {p : Place} (hd : DGood d) (h : PlaceOK p) : DGood (addCon d (conD p)) := by
 refine ⟨QdB hd.1 _, hd.2.1, fun c hc => ?_⟩
 simp only [addCon, Dec.cons, List.mem_append, List.mem_singleton] at hc
 rcases hc with hc | rfl
 ·exact hd.2.2 c hc
 ·exact ⟨h.1, Q9H h.2.2⟩
theorem Qc6 : ∀ (t : List Place) (p : List Dec), (∀ x ∈ t, PlaceOK x) → (∀ d ∈ p, DGood d) → ∀ d ∈ t.foldl stepD p, DGood d
 | [], p, _, hp => hp
 | x :: t, p, ht, hp => by
   rw [List.foldl_cons]
   refine Qc6 t _ (fun y hy => ht y (List.mem_cons_of_mem _ hy)) fun d hd => ?_
   have hx := ht x List.mem_cons_self
   rcases List.eq_nil_or_concat p with rfl | ⟨q, e, rfl⟩
   ·simp only [Q5o, List.mem_singleton] at hd; subst hd; exact Qfp hx
   ·rw [List.concat_eq_append] at *
    rw [Q1C] at hd
    cases hj : joins x e with
    | true =>
      rw [hj, cond_true, List.mem_append, List.mem_singleton] at hd
      rcases hd with hd | rfl
      ·exact hp d (List.mem_append_left _ hd)
      ·exact Qia (hp e (by simp)) hx
    | false =>
      rw [hj, cond_false, List.mem_append, List.mem_singleton] at hd
      rcases hd with hd | rfl
      ·exact hp d hd
      ·exact Qfp hx
theorem Qb5 (a b : List Con) : Con.sizes (a ++ b) = Con.sizes a + Con.sizes b := by
 induction a with
 | nil => simp [Con.sizes]
 | cons p a ih => simp only [List.cons_append, Con.sizes, ih]; omega
theorem Q6E (a b : List Dec) : Dec.sizes (a ++ b) = Dec.sizes a + Dec.sizes b := by
 induction a with
 | nil => simp [Dec.sizes]
 | cons p a ih => simp only [List.cons_append, Dec.sizes, ih]; omega
theorem Qez (d : Dec) (c : Con) : (addCon d c).size = d.size + c.size := by
 cases d
 simp only [addCon, Dec.size, Dec.cons, Dec.case, Dec.funs, Qb5, Con.sizes]; omega
theorem Qip (p : Place) : (mkD p).size ≤ p.ty.size + 2 := by
 have := QbO p
 unfold mkD
 cases decide (p.data = sExn) <;> simp only [cond_true, cond_false, exnDec, dataDec, Dec.size, Con.sizes, Case.sizes, Fun.sizes] <;> omega
theorem Qgd (p : List Dec) (x : Place) : Dec.sizes (stepD p x) ≤ Dec.sizes p + (x.ty.size + 2) := by
 have h1 := Qip x
 have h2 := QbO x
 rcases List.eq_nil_or_concat p with rfl | ⟨q, e, rfl⟩
 ·simp only [Q5o, Dec.sizes]; omega
 ·rw [List.concat_eq_append, Q1C]
  cases joins x e with
  | true => simp only [cond_true, Q6E, Dec.sizes, Qez]; omega
  | false => simp only [cond_false, Q6E, Dec.sizes]; omega
theorem Qc7 (f : List Dec → Place → List Dec) (hf : ∀ p x, Dec.sizes (f p x) ≤ Dec.sizes p + (x.ty.size + 2)) : ∀ (t : List Place) (p : List Dec), 2 * Dec.sizes (t.foldl f p) ≤ 2 * Dec.sizes p + 3 * Place.sizes t
 | [], p => by simp [Place.sizes]
 | x :: t, p => by
   have h1 := Qc7 f hf t (f p x)
   have h2 := hf p x
   have h3 : 1 ≤ x.ty.size := by cases x.ty; simp only [Ty.size]; omega
   rw [List.foldl_cons]
   simp only [Place.sizes]; omega
theorem QfV (t : List Place) : 2 * Dec.sizes (decsD t) ≤ 3 * Place.sizes t := by
 have h1 := Qc7 _ Qgd (t.drop 6) []
 have h2 := Place.sizes_drop t 6
 simp only [Dec.sizes] at h1
 unfold decsD; omega
theorem QfU {t : List Place} (h : ∀ p ∈ t, PlaceOK p) : ∀ d ∈ decsD t, DGood d :=
 Qc6 _ _ (fun x hx => h x (List.mem_of_mem_drop hx)) (by simp)
theorem Qfg : ∀ (l : List Con), (∀ c ∈ l, c.name.length < 2^40 ∧ NamesTy c.arg) → ∀ n ∈ nodesCons l, n.ok
 | [], _, n, hn => by cases hn
 | c :: l, h, n, hn => by
   simp only [nodesCons, List.mem_append] at hn
   rcases hn with hn | hn
   ·obtain ⟨h1, h2⟩ := h c List.mem_cons_self
    simp only [nodesCon, List.mem_cons] at hn
    rcases hn with rfl | hn
    ·exact h1
    ·cases hc : c.has with
     | false => rw [hc] at hn; cases hn
     | true =>
       rw [hc, cond_true, ZK] at hn
       obtain ⟨u, hu, rfl⟩ := List.mem_map.1 hn
       exact h2.pre u hu
   ·exact Qfg l (fun c hc => h c (List.mem_cons_of_mem _ hc)) n hn
theorem Qjy {d : Dec} (h : DGood d) : ∀ n ∈ nodesDecs false [d], n.ok := by
 obtain ⟨⟨h1, h2, h3, h4, h5⟩, h6, h7⟩ := h
 cases d with
 | mk k a s p l lb c cb f fb =>
   simp only [Dec.case, Dec.funs] at h2 h4
   subst h2 h4
   intro n hn
   simp only [nodesDecs, nodesDec, nodesCases, nodesFuns, List.nil_append, List.append_nil, List.mem_cons] at hn
   rcases hn with rfl | hn
   ·exact h6
   ·exact Qfg l h7 n hn
end Go.Proofs.YtoahliipbclneaaGreat
namespace Go.Proofs.YtoahliipbclneaaGreat
open Go Go.Am
set_option linter.unusedVariables false
set_option maxRecDepth 4000
theorem Q6G (p : Place) (s : St) : cw (.f Q0Y) [p.enc] s = some (.ret (.val (conD p).enc), s) := by
 obtain ⟨nm, data, tag, of_, has, vars, k, n, tn, l, b⟩ := p
 rw [Q8f]
 cases has with
 | false => simp only [go_sem, Nat.reduceAdd, Nat.reduceLeDiff, Place.enc, Place.cells_eq, Ty.kind, Ty.n, Ty.name, Ty.args, Ty.nl, conD, Con.enc, Con.cells, Bool.false_and, Ty.zero]
 | true =>
   by_cases h : (l.length : Int) = 2
   ·cases l with
    | nil => simp at h
    | cons a l =>
      have f1 : ixS 4 (.val (encS b ((a :: l).map Ty.enc))) (.val (.int .i64 0)) = some (.val (.cp a.cells)) := Q5T (n := 0) (v := a.enc) (Qf _ _) rfl (Ty.cells_len a) (by decide)
      simp only [List.map_cons, QgV] at f1
      have h' : ((l.length + 1 : Nat) : Int) = 2 := h
      simp only [go_sem, Nat.reduceAdd, Nat.reduceLeDiff, Place.enc, Place.cells_eq, Ty.kind, Ty.n, Ty.name, Ty.args, Ty.nl, conD, Con.enc, Con.cells, Bool.true_and, decide_true, cond_true, List.map_cons, f1, List.headD_cons, List.length_map, List.length_cons, h', Ty.cells_eq]
   ·simp only [go_sem, Nat.reduceAdd, Nat.reduceLeDiff, Place.enc, Place.cells_eq, Ty.kind, Ty.n, Ty.name, Ty.args, Ty.nl, conD, Con.enc, Con.cells, Bool.true_and, decide_eq_false h, cond_false, List.length_map, Ty.zero]
    simp only [go_sem, h, decide_false, cond_false]
def dcell (q : Dec × Nat) : AV := .agg [.int .i64 q.1.kind, .int .i64 q.1.at_, .str q.1.name, .int .i64 q.1.params, .vs q.2 Qi 7 0 q.1.cons.length, .nils, .nils]
theorem QgR (q : Dec × Nat) : (dcell q).cells.length = 7 := rfl
theorem Q1I (ps : List (Dec × Nat)) : ∀ v ∈ ps.map dcell, v.cells.length = 7 := fun v hv => by
 obtain ⟨q, _, rfl⟩ := List.mem_map.1 hv
 exact QgR q
structure DA (s0 s : St) (x : Slot) (ps : List (Dec × Nat)) : Prop where
 grew : Grew s0 s
 at_ : (ps = [] ∧ x = .val .nils) ∨ ps ≠ [] ∧ ∃ loc, x = .val (.vs loc Qc 7 0 ps.length) ∧ s0.locs.length ≤ loc ∧ (∀ q ∈ ps, q.2 ≠ loc) ∧ Holds s loc (ps.map dcell)
 ge : ∀ q ∈ ps, s0.locs.length ≤ q.2
 nd : (ps.map Prod.snd).Nodup
 hold : ∀ q ∈ ps, Holds s q.2 (q.1.cons.map Con.enc)
 form : ∀ q ∈ ps, formD q.1
theorem QbP (l : List Con) : ∀ v ∈ l.map Con.enc, v.cells.length = 7 := fun v hv => by
 obtain ⟨c, _, rfl⟩ := List.mem_map.1 hv
 exact Con.cells_len c
theorem DA.push {s0 s : St} {x : Slot} {ps : List (Dec × Nat)} (h : DA s0 s x ps) (d : Dec) (l : Nat) (hd : Holds s l (d.cons.map Con.enc)) (hl : s0.locs.length ≤ l) (hn : ∀ q ∈ ps, q.2 ≠ l) (hx : ∀ loc, x = .val (.vs loc Qc 7 0 ps.length) → loc ≠ l) (hf : formD d) (hb : ps.length < 2^28) :
  ∃ x' s', appendV Qc (C.ti Qc) s x (.full [dcell (d, l)]) = some (x', s') ∧ DA s0 s' x' (ps ++ [(d, l)]) := by
 have hnd : ((ps ++ [(d, l)]).map Prod.snd).Nodup := by
  rw [List.map_append, List.nodup_append]
  refine ⟨h.nd, by simp, fun a ha b hb => ?_⟩
  simp only [List.map_cons, List.map_nil, List.mem_singleton] at hb
  subst hb
  obtain ⟨q, hq, rfl⟩ := List.mem_map.1 ha
  exact hn q hq
 rcases h.at_ with ⟨rfl, rfl⟩ | ⟨hps, loc, rfl, h1, h2, h3⟩
 ·have e1 : appendV Qc (C.ti Qc) s (.val .nils) (.full [dcell (d, l)]) = some (.val (.vs s.locs.length Qc 7 0 1), s.addLoc (.var ((flatL [dcell (d, l)]).map .val))) := by
   unfold appendV
   simp only [Qa6, ZP (sz := (C.ti Qc).size) (l := [dcell (d, l)]) (by rw [ZC]; exact Q1I [(d, l)]) (by rw [ZC]; decide), cond_true]
   simp only [newV, Q8d, ZC]
   rw [if_pos ⟨by simp, by simp⟩]; rfl
  have g1 : Grew s (s.addLoc (.var ((flatL [dcell (d, l)]).map .val))) := (Grew.refl s).addLoc _
  refine ⟨_, _, e1, ⟨h.grew.trans g1, .inr ⟨by simp, s.locs.length, rfl, h.grew.locsLe, ?_, Qca s [dcell (d, l)]⟩, ?_, hnd, ?_, ?_⟩⟩
  ·intro q hq
   simp only [List.nil_append, List.mem_singleton] at hq; subst hq
   exact Nat.ne_of_lt hd.lt
  ·intro q hq
   simp only [List.nil_append, List.mem_singleton] at hq; subst hq; exact hl
  ·intro q hq
   simp only [List.nil_append, List.mem_singleton] at hq; subst hq; exact hd.move g1
  ·intro q hq
   simp only [List.nil_append, List.mem_singleton] at hq; subst hq; exact hf
 ·have e1 := Q9B (e := Qc) (t := C.ti Qc) (y := .full [dcell (d, l)]) h3 (by rw [ZC]; exact Q1I ps) rfl (by simp) (by rw [ZC]; exact Q1I [(d, l)]) (by rw [ZC]; decide) (by rw [Q8d, List.length_map, List.length_singleton]; omega) (by rw [List.length_map, List.length_singleton]; omega)
  rw [ZC, List.length_map, List.length_singleton] at e1
  have hloc := hx loc rfl
  refine ⟨_, _, e1, ⟨Qc9 h.grew h1 _, .inr ⟨by simp, s.locs.length, by rw [List.length_append, List.length_singleton], h.grew.locsLe, ?_, ?_⟩, ?_, hnd, ?_, ?_⟩⟩
  ·intro q hq
   rcases List.mem_append.1 hq with hq | hq
   ·exact Nat.ne_of_lt (h.hold q hq).lt
   ·simp only [List.mem_singleton] at hq; subst hq; exact Nat.ne_of_lt hd.lt
  ·have := Qa4 s loc (ps.map dcell ++ [dcell (d, l)])
   rw [List.map_append]; exact this
  ·intro q hq
   rcases List.mem_append.1 hq with hq | hq
   ·exact h.ge q hq
   ·simp only [List.mem_singleton] at hq; subst hq; exact hl
  ·intro q hq
   rcases List.mem_append.1 hq with hq | hq
   ·exact (h.hold q hq).turn (h2 q hq) _
   ·simp only [List.mem_singleton] at hq; subst hq; exact hd.turn (Ne.symm hloc) _
  ·intro q hq
   rcases List.mem_append.1 hq with hq | hq
   ·exact h.form q hq
   ·simp only [List.mem_singleton] at hq; subst hq; exact hf
theorem DA.join {s0 s : St} {loc : Nat} {ps : List (Dec × Nat)} {d : Dec} {l : Nat} (h : DA s0 s (.val (.vs loc Qc 7 0 (ps ++ [(d, l)]).length)) (ps ++ [(d, l)])) (c : Con) (hb : d.cons.length < 2^28) :
  ∃ s1 s2, appendV Qi (C.ti Qi) s (.val (.vs l Qi 7 0 d.cons.length)) (.full [c.enc]) = some (.val (.vs s.locs.length Qi 7 0 (d.cons.length + 1)), s1) ∧
    stV s1 (.val (.vp loc (ps.length * 7 + 4))) [.val (.vs s.locs.length Qi 7 0 (d.cons.length + 1))] = some s2 ∧ DA s0 s2 (.val (.vs loc Qc 7 0 (ps ++ [(addCon d c, s.locs.length)]).length)) (ps ++ [(addCon d c, s.locs.length)]) := by
 have hm : (d, l) ∈ ps ++ [(d, l)] := by simp
 obtain ⟨loc', hx, h1, h2, h3⟩ : ∃ loc', Slot.val (.vs loc Qc 7 0 (ps ++ [(d, l)]).length) = .val (.vs loc' Qc 7 0 (ps ++ [(d, l)]).length) ∧ s0.locs.length ≤ loc' ∧ (∀ q ∈ ps ++ [(d, l)], q.2 ≠ loc') ∧ Holds s loc' ((ps ++ [(d, l)]).map dcell) := by
  rcases h.at_ with ⟨h, -⟩ | h
  ·simp at h
  ·exact h.2
 obtain rfl : loc = loc' := by injection hx with hx; injection hx
 have hd : Holds s l (d.cons.map Con.enc) := h.hold _ hm
 have e1 := Q9B (e := Qi) (t := C.ti Qi) (y := .full [c.enc]) hd (by rw [Zl]; exact QbP _) rfl (by simp) (by rw [Zl]; exact QbP [c]) (by rw [Zl]; decide) (by rw [Q8c, List.length_map, List.length_singleton]; omega) (by rw [List.length_map, List.length_singleton]; omega)
 rw [Zl, List.length_map, List.length_singleton] at e1
 have hne : loc ≠ l := Ne.symm (h2 _ hm)
 have hp := h3.turn hne (.var ((flatL (d.cons.map Con.enc ++ [c.enc])).map .val))
 have hlt := h3.lt
 have hpl : (flatL (ps.map dcell)).length = ps.length * 7 := by rw [Q1y (Q1I ps), List.length_map]
 have hcells : flatL ((ps ++ [(d, l)]).map dcell) = flatL (ps.map dcell) ++ [.int .i64 d.kind, .int .i64 d.at_, .str d.name, .int .i64 d.params, .vs l Qi 7 0 d.cons.length, .nils, .nils] := by
  rw [List.map_append, Q5h]; rfl
 have hcells2 : flatL ((ps ++ [(addCon d c, s.locs.length)]).map dcell) = flatL (ps.map dcell) ++ [.int .i64 d.kind, .int .i64 d.at_, .str d.name, .int .i64 d.params, .vs s.locs.length Qi 7 0 (d.cons.length + 1), .nils, .nils] := by
  rw [List.map_append, Q5h]
  simp [dcell, addCon, flatL, Dec.kind, Dec.at_, Dec.name, Dec.params, Dec.cons]
  rfl
 have e2 : stV (s.turn l (.var ((flatL (d.cons.map Con.enc ++ [c.enc])).map .val))) (.val (.vp loc (ps.length * 7 + 4))) [.val (.vs s.locs.length Qi 7 0 (d.cons.length + 1))] = some { s.turn l (.var ((flatL (d.cons.map Con.enc ++ [c.enc])).map .val)) with locs := (s.turn l (.var ((flatL (d.cons.map Con.enc ++ [c.enc])).map .val))).locs.set loc (.var ((flatL ((ps ++ [(addCon d c, s.locs.length)]).map dcell)).map .val)) } := by
  unfold Holds at hp
  rw [Qhy hp (by rw [List.length_map, hcells, List.length_append, hpl]; simp only [List.length_cons, List.length_nil]; omega), hcells, hcells2]
  simp only [List.map_append, List.map_cons, List.map_nil, List.length_singleton]
  rw [List.take_append, List.take_of_length_le (by simp [hpl]), List.drop_append, List.drop_of_length_le (by simp only [List.length_map, hpl]; omega)]
  simp only [List.length_map, hpl]
  rw [show ps.length * 7 + 4 - ps.length * 7 = 4 by omega, show ps.length * 7 + 4 + 1 - ps.length * 7 = 5 by omega]
  simp only [List.take_succ_cons, List.take_zero, List.drop_succ_cons, List.drop_zero, List.nil_append, List.append_assoc, List.cons_append]
 refine ⟨_, _, e1, e2, ?_⟩
 have hnew := Qa4 s l (d.cons.map Con.enc ++ [c.enc])
 have hlt2 : loc < (s.turn l (.var ((flatL (d.cons.map Con.enc ++ [c.enc])).map .val))).locs.length := by rw [Qig]; omega
 have hsub : ∀ q ∈ ps, q ∈ ps ++ [(d, l)] := fun q hq => List.mem_append_left _ hq
 have hnd := h.nd
 rw [List.map_append, List.nodup_append] at hnd
 have hql : ∀ q ∈ ps, q.2 ≠ l := fun q hq => hnd.2.2 q.2 (List.mem_map_of_mem hq) l (by simp)
 refine ⟨?_, .inr ⟨by simp, loc, rfl, h1, ?_, ?_⟩, ?_, ?_, ?_, ?_⟩
 ·exact ((Moves.grew [] [] (Qc9 h.grew (h.ge _ hm) _)).setLoc (.inr h1) _).toGrew
 ·intro q hq
  rcases List.mem_append.1 hq with hq | hq
  ·exact h2 q (hsub q hq)
  ·simp only [List.mem_singleton] at hq; subst hq; exact Nat.ne_of_gt hlt
 ·unfold Holds; simp only []; rw [List.getElem?_set_self hlt2]
 ·intro q hq
  rcases List.mem_append.1 hq with hq | hq
  ·exact h.ge q (hsub q hq)
  ·simp only [List.mem_singleton] at hq; subst hq; exact h.grew.locsLe
 ·rw [List.map_append, List.nodup_append]
  refine ⟨hnd.1, by simp, fun a ha b hb => ?_⟩
  simp only [List.map_cons, List.map_nil, List.mem_singleton] at hb
  subst hb
  obtain ⟨q, hq, rfl⟩ := List.mem_map.1 ha
  exact Nat.ne_of_lt (h.hold q (hsub q hq)).lt
 ·intro q hq
  rcases List.mem_append.1 hq with hq | hq
  ·exact ((h.hold q (hsub q hq)).turn (hql q hq) _).put (h2 q (hsub q hq)) _
  ·simp only [List.mem_singleton] at hq; subst hq
   refine Holds.put ?_ (Nat.ne_of_gt hlt) _
   simp only [addCon, Dec.cons, List.map_append, List.map_cons, List.map_nil]
   exact hnew
 ·intro q hq
  rcases List.mem_append.1 hq with hq | hq
  ·exact h.form q (hsub q hq)
  ·simp only [List.mem_singleton] at hq; subst hq; exact QdB (h.form _ hm) c
def dslv (q : Dec × Nat) : AV := .agg [.int .i64 q.1.kind, .int .i64 q.1.at_, .str q.1.name, .int .i64 q.1.params, .sl (q.1.cons.map Con.enc), .nils, .nils]
theorem Con.ofC (c : Con) : ofCells (C.ti Qi) c.enc.cells = some c.enc := Q3p QbH (by rw [Zl]; exact Con.cells_len c)
theorem Con.plainC (c : Con) : ∀ x ∈ c.cells, plainV x = true := by
 intro x hx
 simp only [Con.cells, List.mem_cons] at hx
 rcases hx with rfl | rfl | rfl | hx
 ·rfl
 ·rfl
 ·rfl
 ·exact Ty.plainC c.arg x hx
theorem Qi2 {q : Dec × Nat} (h : formD q.1) : dslv q = q.1.enc := by
 obtain ⟨h1, h2, h3, h4, h5⟩ := h
 simp only [dslv, Dec.enc, Dec.cells_eq, h1, h2, h3, h4, h5, Q1K, List.map_nil, Q4E]
theorem Qa3 {s0 : St} : ∀ (ps : List (Dec × Nat)) (s : St), Grew s0 s → (∀ q ∈ ps, s0.locs.length ≤ q.2) → (ps.map Prod.snd).Nodup → (∀ q ∈ ps, Holds s q.2 (q.1.cons.map Con.enc)) →
  ∃ s', frzW (Am.frz C.ti 15) (flatL (ps.map dcell)) s = some (flatL (ps.map dslv), s') ∧ Grew s0 s'
 | [], s, g, _, _, _ => ⟨s, rfl, g⟩
 | q :: ps, s, g, hg, hn, hh => by
   have e1 := Qh5 (ti := C.ti) (e := Qi) (hh q List.mem_cons_self) 13 (fun v hv => by
    obtain ⟨c, _, rfl⟩ := List.mem_map.1 hv
    exact ⟨by rw [Zl]; exact Con.cells_len c, Con.ofC c⟩) (fun v hv => by
    obtain ⟨c, _, rfl⟩ := List.mem_map.1 hv
    exact Con.plainC c) (by rw [Zl]; decide)
   rw [Zl, List.length_map] at e1
   simp only [List.map_cons, List.nodup_cons] at hn
   obtain ⟨s', e2, g2⟩ := Qa3 ps (s.kill q.2) (Q5i g (hg q List.mem_cons_self) _) (fun w hw => hg w (List.mem_cons_of_mem _ hw)) hn.2 (fun w hw => (hh w (List.mem_cons_of_mem _ hw)).kill (fun e => hn.1 (e ▸ List.mem_map_of_mem hw)))
   refine ⟨s', ?_, g2⟩
   rw [List.map_cons, List.map_cons, Q1L, Q1L, QdG]
   have e3 : frzW (Am.frz C.ti 15) (dcell q).cells s = some ((dslv q).cells, s.kill q.2) := by
    simp only [dcell, dslv, Q0c, frzW, Q2l C.ti 14 (v := .int .i64 q.1.kind) rfl, Q2l C.ti 14 (v := .int .i64 q.1.at_) rfl, Q2l C.ti 14 (v := .int .i64 q.1.params) rfl, Q2l C.ti 14 (v := .str q.1.name) rfl, e1, Q2l C.ti 14 (v := .nils) rfl]
   rw [e3]
   simp only []
   rw [e2]
theorem DA.frz {s0 s : St} {x : Slot} {ps : List (Dec × Nat)} (h : DA s0 s x ps) : ∃ s', frzSlot C.ti x s = some (.val (encS true ((ps.map Prod.fst).map Dec.enc)), s') ∧ Grew s0 s' := by
 rcases h.at_ with ⟨rfl, rfl⟩ | ⟨hps, loc, rfl, h1, h2, h3⟩
 ·exact ⟨s, rfl, h.grew⟩
 ·obtain ⟨s', e2, g2⟩ := Qa3 (s0 := s0) ps (s.kill loc) (Q5i h.grew h1 _) h.ge h.nd (fun q hq => (h.hold q hq).kill (h2 q hq))
  have hl := Q1y (Q1I ps)
  refine ⟨s', ?_, g2⟩
  unfold Holds at h3
  have e3 : rows (C.ti Qc) ps.length (flatL (ps.map dslv)) = some (ps.map dslv) := by
   have := Q4k (t := C.ti Qc) (l := ps.map dslv) (fun v hv => by
    obtain ⟨q, _, rfl⟩ := List.mem_map.1 hv
    exact ⟨by rw [ZC]; rfl, Q3p QbI (by rw [ZC]; rfl)⟩)
   rw [List.length_map] at this; exact this
  have e4 : ps.map dslv = (ps.map Prod.fst).map Dec.enc := by
   rw [List.map_map]; exact List.map_congr_left fun q hq => Qi2 (h.form q hq)
  simp only [frzSlot, Am.frz, h3]
  rw [Nat.zero_mul, List.drop_zero, List.take_of_length_le (by simp only [List.length_map, hl]; omega), Q5w]
  simp only [St.kill] at e2
  simp only []
  rw [e2]
  simp only []
  rw [e3]
  simp only [List.length_map, hl, Nat.zero_add]
  rw [show (Nat.blt 0 7 && Nat.ble (ps.length * 7) (ps.length * 7)) = true by simp [Nat.blt_eq, Nat.ble_eq]]
  simp only [cond_true]
  have : encS true ((ps.map Prod.fst).map Dec.enc) = .sl ((ps.map Prod.fst).map Dec.enc) := by
   cases hp : ps with
   | nil => exact absurd hp hps
   | cons q ps => rfl
  rw [this, ← e4]
end Go.Proofs.YtoahliipbclneaaGreat
namespace Go.Proofs.YtoahliipbclneaaGreat
open Go Go.Am
set_option linter.unusedVariables false
theorem Q6K {inn : Bool} : ∀ {P : List Dec} {d : Dec}, d ∈ P → .dec inn d ∈ nodesDecs inn P
 | d :: P, e, h => by
   simp only [nodesDecs]
   rcases List.mem_cons.1 h with rfl | h
   ·cases e; simp only [nodesDec]; exact List.mem_append_left _ List.mem_cons_self
   ·exact List.mem_append_right _ (Q6K h)
theorem QgS {P : List Dec} (hs : Dec.sizes P < 2^24) (h : rightN (nodesDecs false P) (deepDecs P 0) = .zero) : ∀ d ∈ P, DecFit d := by
 intro d hd
 have hw : wrongDecB d false = 0 := Q8H h _ (Q6K hd)
 have D := Qdo hw
 have hsz := Dec.mem_sizes hd
 constructor
 ·by_cases h3 : d.kind = 3
  ·have := (D.data h3).2.2.2.1; omega
  ·have := (D.bare h3).1; omega
 ·intro c hc
  have h1 := Con.mem_sizes hc
  have h2 : Con.sizes d.cons ≤ d.size := by
   cases d; simp only [Dec.size, Dec.cons]; omega
  refine Q2U _ ?_
  simp only [Con.size] at h1
  omega
end Go.Proofs.YtoahliipbclneaaGreat