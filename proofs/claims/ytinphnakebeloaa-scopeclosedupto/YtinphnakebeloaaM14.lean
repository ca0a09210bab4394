/- A part of the proof: SRef12, PRN, SRef12e, PDeclEq, PScope4, PScope5, PScope6. -/
import Derived.Test.YtinphnakebeloaaM10
import Derived.Test.YtinphnakebeloaaM13
set_option linter.unusedVariables false
set_option linter.unusedSimpArgs false
namespace Go.Proofs.Ytinphnakebeloaa
open Go Go.Am
set_option linter.unusedVariables false
set_option maxRecDepth 4000
theorem Q7d (nm : Str) (l : List Str) (y : Slot) (hy : y.list? = some (l.map .str)) (hl : l.length < 2^40) (s : St) : ∀ (suf pre : List Str) (i : Nat), pre ++ suf = l → i = pre.length →
  Q2d y (.val (.str nm)) (.val (.int .i64 i)) s = some (.ret (.val (.bool (decide (nm ∈ suf)))), s)
 | [], pre, i, hp, hi => by
   subst hi
   rw [Q6g]; simp only [go_sem, hy, List.length_map, Q8 (show pre = l by simpa using hp)]
   simp
 | k :: suf, pre, i, hp, hi => by
   subst hi
   obtain ⟨f1, f2, f3⟩ := Q7 hy hp (by omega) (sz := 1) rfl (by decide)
   have ih := Q7d nm l y hy hl s suf (pre ++ [k]) (pre.length + 1) (by simpa using hp) (by simp)
   rw [Q6g]
   by_cases e : k = nm
   ·subst e
    simp only [go_sem, Nat.reduceAdd, Nat.reduceLeDiff, hy, List.length_map, f1, f2, f3, decide_true]
    simp
   ·have : decide (nm ∈ k :: suf) = decide (nm ∈ suf) := by
     rw [decide_eq_decide]; simp [Ne.symm e]
    rw [this]
    simp only [go_sem, Nat.reduceAdd, Nat.reduceLeDiff, hy, List.length_map, f1, f2, f3, decide_eq_false e, ih]
theorem Q7e (nm : Str) (l : List Str) (v : AV) (hv : (Slot.val v).list? = some (l.map .str)) (hl : l.length < 2^40) (s : St) : cw (.f Q2E) [v, .str nm] s = some (.ret (.val (.bool (decide (nm ∈ l)))), s) := by
 have := Q7d nm l (.val v) hv hl s l [] 0 rfl rfl
 rw [show ((0 : Nat) : Int) = 0 from rfl] at this
 rw [Qe3]; exact this
theorem Qf2 (d : Dec) : (namesR d).length ≤ d.size := by
 have h1 : (varsCases d.case).length ≤ d.size := by
  have := Q7k d.case
  cases d; simp only [Dec.size, Dec.case] at *; omega
 have h2 : (d.funs.map Fun.name).length ≤ d.size := by
  have := Fun.len_sizes d.funs
  cases d; simp only [Dec.size, Dec.funs, List.length_map] at *; omega
 unfold namesR
 cases (decide (d.kind = 1) && decide ((d.case.length : Int) = 1)) with
 | true => exact h1
 | false => cases decide (d.kind = 2) with
   | true => exact h2
   | false => simp
mutual
theorem QgT (t : List Place) : ∀ (p : Pat) (names : List Str), (patR t p names).2.length ≤ names.length + p.size
 | .mk k a nm n l b, names => by
   have h := QbG t l (bif decide (k = 2) || decide (k = 6) then names ++ [nm] else names)
   simp only [patR, Pat.size]
   cases (decide (k = 2) || decide (k = 6)) && decide (nm ∈ names) with
   | true => simp
   | false =>
     simp only [cond_false]
     cases decide (k = 4) && !decide ((conR t nm a l.length).kind = 0) with
     | true => simp
     | false =>
       simp only [cond_false]
       cases hx : (decide (k = 2) || decide (k = 6)) with
       | true => rw [hx] at h; simp only [cond_true, List.length_append, List.length_cons, List.length_nil] at h ⊢; omega
       | false => rw [hx] at h; simp only [cond_false] at h ⊢; omega
theorem QbG (t : List Place) : ∀ (l : List Pat) (names : List Str), (patsR t l names).2.length ≤ names.length + Pat.sizes l
 | [], names => by simp [patsR]
 | p :: l, names => by
   have h1 := QgT t p names
   have h2 := QbG t l (patR t p names).2
   simp only [patsR, Pat.sizes]
   cases decide ((patR t p names).1.kind = 0) with
   | true => simp only [cond_true]; omega
   | false => simp
end
section
variable (t : List Place) (tv : AV)
variable (h : TabFit t) (hv : (Slot.val tv).list? = some (t.map Place.enc))
include h hv
end
end Go.Proofs.Ytinphnakebeloaa
namespace Go.Proofs.Ytinphnakebeloaa
open Go Go.Am
set_option linter.unusedVariables false
def RN (l : List TNode) : Prop := ∀ n ∈ l, n.wrong.1 = 0
theorem RN.l {a b : List TNode} (h : RN (a ++ b)) : RN a := fun n hn => h n (List.mem_append_left _ hn)
theorem RN.r {a b : List TNode} (h : RN (a ++ b)) : RN b := fun n hn => h n (List.mem_append_right _ hn)
theorem RN.t {x : TNode} {a : List TNode} (h : RN (x :: a)) : RN a := fun n hn => h n (List.mem_cons_of_mem _ hn)
theorem RN.cases : ∀ {l : List Case}, RN (nodesCases l) → ∀ e ∈ l, RN (nodesCase e)
 | x :: l, h, e, he => by
   simp only [nodesCases] at h
   rcases List.mem_cons.1 he with rfl | he
   ·exact h.l
   ·exact h.r.cases e he
theorem RN.decs {i : Bool} : ∀ {l : List Dec}, RN (nodesDecs i l) → ∀ e ∈ l, RN (nodesDec i e)
 | x :: l, h, e, he => by
   simp only [nodesDecs] at h
   rcases List.mem_cons.1 he with rfl | he
   ·exact h.l
   ·exact h.r.decs e he
theorem RN.funs : ∀ {l : List Fun}, RN (nodesFuns l) → ∀ e ∈ l, RN (nodesCase e.case)
 | x :: l, h, e, he => by
   simp only [nodesFuns] at h
   rcases List.mem_cons.1 he with rfl | he
   ·cases e; simp only [nodesFun] at h; exact h.l.t
   ·exact h.r.funs e he
theorem Q8g {i : Bool} {d : Dec} (h : RN (nodesDec i d)) : (d.kind = 1 → d.case.length = 1) ∧ (d.kind ≠ 1 → d.kind = 2 ∨ d.funs = []) := by
 have hw : wrongDecB d i = 0 := by
  cases d; simp only [nodesDec] at h; exact h _ List.mem_cons_self
 have D := Q9I hw
 refine ⟨fun hk => ?_, fun hk => ?_⟩
 ·have := (D.val hk).1; omega
 ·rcases D.kind with h1 | h1 | h1 | h1
  ·exact absurd h1 hk
  ·exact .inl h1
  ·exact .inr (len0 (D.data h1).2.1)
  ·exact .inr (len0 (D.exn h1).2.1)
end Go.Proofs.Ytinphnakebeloaa
namespace Go.Proofs.Ytinphnakebeloaa
open Go Go.Am
set_option linter.unusedVariables false
set_option maxRecDepth 4000
mutual
theorem Q3R : ∀ (e : Exp) (bd found : List Str), (freeR e bd found).length ≤ found.length + e.size
 | .mk k a nm n l lb c cb d db, bd, found => by
   have hv : (bif decide (k = 2) && !decide (nm ∈ bd) && !decide (nm ∈ found) then found ++ [nm] else found).length ≤ found.length + 1 := by
    cases (decide (k = 2) && !decide (nm ∈ bd) && !decide (nm ∈ found)) <;> simp
   simp only [freeR, Exp.size]
   generalize (bif decide (k = 2) && !decide (nm ∈ bd) && !decide (nm ∈ found) then found ++ [nm] else found) = F at hv
   have h1 := Q7N d bd F
   have h2 := Q7O l (freeDecs d bd F).1 (freeDecs d bd F).2
   have h3 := Q76 c (freeDecs d bd F).1 (freeExps l (freeDecs d bd F).1 (freeDecs d bd F).2)
   omega
theorem Q7O : ∀ (l : List Exp) (bd found : List Str), (freeExps l bd found).length ≤ found.length + Exp.sizes l
 | [], _, _ => by simp [freeExps]
 | e :: l, bd, found => by
   have h1 := Q3R e bd found
   have h2 := Q7O l bd (freeR e bd found)
   simp only [freeExps, Exp.sizes]; omega
theorem Q76 : ∀ (l : List Case) (bd found : List Str), (freeCases l bd found).length ≤ found.length + Case.sizes l
 | [], _, _ => by simp [freeCases]
 | .mk p e :: l, bd, found => by
   have h1 := Q3R e (bd ++ varsPat p) found
   have h2 := Q76 l bd (freeR e (bd ++ varsPat p) found)
   simp only [freeCases, Case.sizes, Case.size]; omega
theorem Q7N : ∀ (l : List Dec) (bd found : List Str), (freeDecs l bd found).2.length ≤ found.length + Dec.sizes l
 | [], _, _ => by simp [freeDecs]
 | .mk k a s p l lb c cb f fb :: r, bd, found => by
   have hv : (bif decide (k = 1) then freeVal c bd found else found).length ≤ found.length + Case.sizes c := by
    have := QdW c bd found
    cases decide (k = 1) <;> simp <;> omega
   simp only [freeDecs, Dec.sizes, Dec.size]
   generalize (bif decide (k = 1) then freeVal c bd found else found) = F at hv
   have h1 := Q7P f (bd ++ namesR (.mk k a s p l lb c cb f fb)) F
   have h2 := Q7N r (bd ++ namesR (.mk k a s p l lb c cb f fb)) (freeFuns f (bd ++ namesR (.mk k a s p l lb c cb f fb)) F)
   omega
theorem QdW : ∀ (l : List Case) (bd found : List Str), (freeVal l bd found).length ≤ found.length + Case.sizes l
 | [], _, _ => by simp [freeVal]
 | .mk p e :: l, bd, found => by
   have h1 := Q3R e bd found
   simp only [freeVal, Case.sizes, Case.size]; omega
theorem Q7P : ∀ (l : List Fun) (bd found : List Str), (freeFuns l bd found).length ≤ found.length + Fun.sizes l
 | [], _, _ => by simp [freeFuns]
 | .mk s a c :: l, bd, found => by
   have h1 := QcN c bd found
   have h2 := Q7P l bd (freeCase c bd found)
   simp only [freeFuns, Fun.sizes, Fun.size]; omega
theorem QcN : ∀ (c : Case) (bd found : List Str), (freeCase c bd found).length ≤ found.length + c.size
 | .mk p e, bd, found => by
   have h1 := Q3R e (bd ++ varsPat p) found
   simp only [freeCase, Case.size]; omega
end
end Go.Proofs.Ytinphnakebeloaa
namespace Go.Proofs.Ytinphnakebeloaa
open Go Go.Am
set_option linter.unusedVariables false
def TabEq (t u : List Place) : Prop := t.map ownP = u.map ownP
theorem Qg2 : ∀ t : Ty, ownTy (ownTy t) = ownTy t ∧ True := fun t => ⟨own1 t, trivial⟩
where
 own1 : ∀ t : Ty, ownTy (ownTy t) = ownTy t
 | .mk k n s l b => by simp only [ownTy, ownTys_own l]
 ownTys_own : ∀ l : List Ty, ownTys (ownTys l) = ownTys l
 | [] => rfl
 | t :: l => by simp only [ownTys, own1 t, ownTys_own l]
theorem QgS (p : Place) : ownP (ownP p) = ownP p := by simp only [ownP, (Qg2 p.ty).1]
theorem TabEq.own (t : List Place) : TabEq t (t.map ownP) := by
 unfold TabEq
 rw [List.map_map]
 exact List.map_congr_left fun p _ => (QgS p).symm
theorem TabEq.symm {t u : List Place} (h : TabEq t u) : TabEq u t := Eq.symm h
theorem TabEq.trans {t u w : List Place} (h : TabEq t u) (k : TabEq u w) : TabEq t w := Eq.trans h k
theorem TabEq.app {t u a b : List Place} (h : TabEq t u) (k : TabEq a b) : TabEq (t ++ a) (u ++ b) := by
 unfold TabEq at *
 rw [List.map_append, List.map_append, h, k]
theorem TabEq.map {α : Type} {t u : List Place} (h : TabEq t u) (f : Place → α) (hf : ∀ p, f (ownP p) = f p) : t.map f = u.map f := by
 have h1 : ∀ l : List Place, l.map f = (l.map ownP).map f := fun l => by
  rw [List.map_map]; exact List.map_congr_left fun p _ => (hf p).symm
 rw [h1 t, h1 u, h]
theorem TabEq.names {t u : List Place} (h : TabEq t u) : t.map Place.name = u.map Place.name := h.map _ fun _ => rfl
theorem TabEq.len {t u : List Place} (h : TabEq t u) : t.length = u.length := by
 have := congrArg List.length h
 simpa using this
def varsOf (nm : Str) : List (Str × Int) → Option Int
 | [] => none
 | p :: l => if p.1 = nm then some p.2 else varsOf nm l
def dv (t : List Place) : List (Str × Int) := t.map fun p => (p.data, p.vars)
theorem TabEq.dv {t u : List Place} (h : TabEq t u) : dv t = dv u := h.map _ fun _ => rfl
theorem QfU (nm : Str) : known0 nm = bif givenR nm then some (-1) else none := by
 unfold known0 givenR upd
 by_cases h1 : nm = sStar
 ·simp [h1]
 ·by_cases h2 : nm = sArrow
  ·simp [h2]
  ·by_cases h3 : nm = sRef
   ·simp [h3]
   ·by_cases h4 : nm = sExn
    ·simp [h4]
    ·by_cases h5 : nm = sUnit
     ·simp [h5]
     ·by_cases h6 : nm = sBool
      ·simp [h6]
      ·by_cases h7 : nm = sInt
       ·simp [h7]
       ·simp [h1, h2, h3, h4, h5, h6, h7]
theorem QcY (g : Str → Option Int) (p : Place) (nm : Str) : knownStep g p nm = match g nm with | some v => some v | none => if p.data = nm then some p.vars else none := by
 unfold knownStep
 by_cases h : nm = p.data
 ·subst h
  cases hg : g p.data with
  | none => simp [upd]
  | some v => simp [hg]
 ·cases hg : g p.data with
  | none =>
    simp only []
    rw [Qdw _ _ h]
    cases g nm with
    | none => simp [Ne.symm h]
    | some v => rfl
  | some v =>
    simp only []
    cases g nm with
    | none => simp [Ne.symm h]
    | some v => rfl
theorem Q9V (nm : Str) : ∀ (t : List Place) (g : Str → Option Int), t.foldl knownStep g nm = match g nm with | some v => some v | none => varsOf nm (dv t)
 | [], g => by simp only [List.foldl_nil, dv, List.map_nil, varsOf]; cases g nm <;> rfl
 | p :: t, g => by
   rw [List.foldl_cons, Q9V nm t (knownStep g p), QcY]
   cases g nm with
   | some v => rfl
   | none =>
     simp only [dv, List.map_cons, varsOf]
     by_cases h : p.data = nm
     ·simp [h]
     ·simp [h]
theorem Q7T (t : List Place) (nm : Str) : knownD t nm = bif givenR nm then some (-1) else varsOf nm (dv t) := by
 rw [knownD, Q9V, QfU]
 cases givenR nm <;> rfl
theorem Q9H (nm : Str) : ∀ t : List Place, (match dataR nm t with | [] => none | p :: _ => some p.vars) = varsOf nm (dv t)
 | [] => rfl
 | p :: t => by
   by_cases h : p.data = nm
   ·simp [dataR, dv, varsOf, h, ownP]
   ·have := Q9H nm t
    simp only [dataR, dv, List.map_cons, varsOf, h, decide_false, List.filter_cons, if_false] at this ⊢
    simpa using this
theorem QfI (t : List Place) (nm : Str) : dtR t nm = bif givenR nm then (0, false) else match varsOf nm (dv t) with | none => (0, false) | some v => (v, true) := by
 unfold dtR
 cases givenR nm with
 | true => rfl
 | false =>
   rw [← Q9H]
   simp only [cond_false]
   cases dataR nm t <;> rfl
theorem Q8i (t : List Place) : exns t = ((dv t).filter fun p => decide (p.1 = sExn)).length := by
 unfold exns dv
 rw [List.filter_map, List.length_map]; rfl
theorem Qax {nm : Str} {v : Int} : ∀ {l : List (Str × Int)}, varsOf nm l = some v → ∃ p ∈ l, p.2 = v
 | [], h => by cases h
 | p :: l, h => by
   simp only [varsOf] at h
   split at h
   ·cases h; exact ⟨p, List.mem_cons_self, rfl⟩
   ·obtain ⟨q, hq, e⟩ := Qax h; exact ⟨q, List.mem_cons_of_mem _ hq, e⟩
theorem Q9S (t : List Place) (d : Dec) : ∀ (a b : List Ty), firstW t d (a ++ b) = if (firstW t d a).1 ≠ 0 then firstW t d a else firstW t d b
 | [], b => by simp [firstW]
 | u :: a, b => by
   simp only [List.cons_append, firstW, Q9S t d a b]
   by_cases h : (wrongR t d u).1 = 0
   ·simp [h]
   ·simp [h]
def TyIs (t : Ty) : Prop := ∀ u ∈ preTy t, u.kind = 1 → u.args = [] ∧ 0 ≤ u.n
theorem Qa5 : ∀ {l : List Ty} {w u : Ty}, w ∈ l → u ∈ preTy w → u ∈ preTys l
 | x :: l, w, u, h, hu => by
   simp only [preTys, List.mem_append]
   rcases List.mem_cons.1 h with rfl | h
   ·exact .inl hu
   ·exact .inr (Qa5 h hu)
structure WH (u : List Place) (d : Dec) (g : Str → Option Int) (vars : Int) : Prop where
 hk : ∀ v : Ty, v.kind = 1 → 0 ≤ v.n → (wrongR u d v = if v.n ≥ vars then (16, []) else (0, []))
 hg : ∀ v : Ty, v.kind ≠ 1 → wrongR u d v = match g v.name with | none => (8, v.name) | some m => if m ≥ 0 ∧ m ≠ (v.args.length : Int) then (19, v.name) else (0, [])
mutual
theorem QdA {u : List Place} {d : Dec} {g : Str → Option Int} {vars : Int} (H : WH u d g vars) : ∀ v : Ty, TyIs v → wrongD g vars v = firstW u d (preTy v)
 | .mk k n nm l b, hT => by
   have h0 := hT (.mk k n nm l b) (by simp only [preTy]; exact List.mem_cons_self)
   simp only [Ty.kind, Ty.args, Ty.n] at h0
   simp only [preTy, wrongD]
   by_cases h1 : k = 1
   ·obtain ⟨rfl, hn⟩ := h0 h1
    subst h1
    have := H.hk (.mk 1 n nm [] b) rfl hn
    simp only [preTys, firstW, this, Ty.n, if_true]
    by_cases hv : n ≥ vars
    ·simp [hv]
    ·simp [hv]
   ·have := H.hg (.mk k n nm l b) h1
    have hl := QbU H l (fun w hw u hu => hT u (by simp only [preTy]; exact List.mem_cons_of_mem _ (Qa5 hw hu)))
    simp only [Ty.name, Ty.args] at this
    simp only [firstW, this, h1, if_false]
    cases g nm with
    | none => simp
    | some m =>
      simp only
      by_cases hm : m ≥ 0 ∧ m ≠ (l.length : Int)
      ·simp [hm]
      ·simp only [hm, if_false, ne_eq, not_true_eq_false]
       exact hl
theorem QbU {u : List Place} {d : Dec} {g : Str → Option Int} {vars : Int} (H : WH u d g vars) : ∀ l : List Ty, (∀ v ∈ l, TyIs v) → wrongsD g vars l = firstW u d (preTys l)
 | [], _ => by simp only [wrongsD, preTys, firstW]
 | v :: l, hT => by
   simp only [wrongsD, preTys, Q9S, QdA H v (hT v List.mem_cons_self), QbU H l fun w hw => hT w (List.mem_cons_of_mem _ hw)]
end
theorem Qfd (n : Nat) : (varsTy n).map ownTy = varsTy n := by
 unfold varsTy
 rw [List.map_map]
 exact List.map_congr_left fun i _ => rfl
theorem Qa6 : ∀ l : List Nat, (chTys (toPut []) (l.map fun i : Nat => tvar (i : Int)) ()).1 = l.map fun i : Nat => tvar (i : Int)
 | [] => rfl
 | i :: l => by
   have h : chTy (toPut []) (tvar (i : Int)) () = (tvar (i : Int), ()) := by
    simp only [tvar, chTy, decide_true, cond_true, toPut, List.length_nil]
    rw [if_neg (by omega)]
   simp only [List.map_cons, chTys, h, Qa6 l]
theorem QcX (d : Dec) (hk : d.kind = 3 ∨ d.kind = 4) : (headD d).1 = resR d := by
 unfold headD resR
 rcases hk with h | h
 ·simp only [h, Int.reduceEq, decide_false, decide_true, cond_false, cond_true, ofTy, Qfd]
 ·simp only [h, decide_true, cond_true]
theorem Qi2 (d : Dec) (hk : d.kind = 3 ∨ d.kind = 4) : putTy (resR d) [] = resR d := by
 unfold resR putTy
 rcases hk with h | h
 ·simp only [h, Int.reduceEq, decide_false, decide_true, cond_false, cond_true, chTy, varsTy, Qa6]
 ·simp only [h, decide_true, cond_true, ofTy, List.map_nil, chTy, Int.reduceEq, decide_false, cond_false, chTys]
theorem Qbv (nm : Str) : ∀ l : List Place, (findD nm l).isSome = decide (nm ∈ l.map Place.name)
 | [] => rfl
 | p :: l => by
   simp only [findD, List.map_cons, List.mem_cons]
   by_cases h : p.name = nm
   ·simp [h]
   ·rw [if_neg h, Qbv nm l]
    simp [Ne.symm h]
structure DecOK (d : Dec) : Prop where
 kind : d.kind = 1 ∨ d.kind = 2 ∨ d.kind = 3 ∨ d.kind = 4
 data : d.kind = 3 → 0 ≤ d.params
 exn : d.kind = 4 → d.cons.length = 1
 arg : ∀ c ∈ d.cons, c.has = true → TyIs c.arg
theorem Qfh {t u : List Place} (h : TabEq t u) (hv : ∀ p ∈ t, 0 ≤ p.vars) (d : Dec) (g : Str → Option Int) (vars : Int) (hd : d.kind = 3 ∧ vars = d.params ∧ 0 ≤ d.params ∧ g = upd (knownD t) d.name d.params ∧ givenR d.name = false ∨ d.kind = 4 ∧ vars = 0 ∧ g = knownD t) (c : Con) (hT : TyIs c.arg) : wrongD g vars c.arg = firstW u d (preTy c.arg) := by
 have dpos : ∀ nm m, varsOf nm (dv t) = some m → 0 ≤ m := fun nm m e => by
  obtain ⟨p, hp, rfl⟩ := Qax e
  obtain ⟨q, hq, rfl⟩ := List.mem_map.1 hp
  exact hv q hq
 refine QdA ⟨fun v h1 hn => ?_, fun v h1 => ?_⟩ c.arg hT
 ·unfold wrongR
  rw [decide_eq_true h1, cond_true]
  rcases hd with ⟨k3, rfl, -, -, -⟩ | ⟨k4, rfl, -⟩
  ·rw [decide_eq_true k3]
   by_cases hh : v.n ≥ d.params
   ·simp [hh]
   ·simp [hh]
  ·rw [decide_eq_false (by omega)]
   simp [hn]
 ·unfold wrongR wrongR1
  rw [decide_eq_false h1, cond_false, QfI, ← h.dv]
  rcases hd with ⟨k3, rfl, hp, rfl, hgn⟩ | ⟨k4, rfl, rfl⟩
  ·rw [decide_eq_true k3, Bool.true_and]
   by_cases hnm : v.name = d.name
   ·rw [hnm, Qdx, hgn, decide_eq_true rfl]
    simp only [cond_false, cond_true, Bool.not_true]
    by_cases hl : (v.args.length : Int) = d.params
    ·have : ¬ (d.params ≥ 0 ∧ d.params ≠ (v.args.length : Int)) := fun hx => hx.2 hl.symm
     simp only [hl, this, decide_true, Bool.not_true, cond_false, if_false]
     simp
    ·have : d.params ≥ 0 ∧ d.params ≠ (v.args.length : Int) := ⟨hp, fun e => hl e.symm⟩
     simp only [decide_eq_false hl, Bool.not_false, cond_true, this, if_true]
     simp [hp, this.2]
   ·rw [Qdw _ _ hnm, Q7T, decide_eq_false hnm, cond_false]
    cases hgv : givenR v.name with
    | true => simp
    | false =>
      simp only [cond_false]
      cases hm : varsOf v.name (dv t) with
      | none => simp
      | some m =>
        have := dpos _ _ hm
        by_cases hl : (v.args.length : Int) = m
        ·simp [hl]
        ·have hx : ¬ m = (v.args.length : Int) := fun e => hl e.symm
         simp [hl, hx, this]
  ·rw [decide_eq_false (by omega), Bool.false_and, cond_false, Q7T]
   cases hgv : givenR v.name with
   | true => simp
   | false =>
     simp only [cond_false]
     cases hm : varsOf v.name (dv t) with
     | none => simp
     | some m =>
       have := dpos _ _ hm
       by_cases hl : (v.args.length : Int) = m
       ·simp [hl]
       ·have hx : ¬ m = (v.args.length : Int) := fun e => hl e.symm
        simp [hl, hx, this]
theorem QaT {t u : List Place} (h : TabEq t u) (hv : ∀ p ∈ t, 0 ≤ p.vars) (d : Dec) (hk : d.kind = 3 ∨ d.kind = 4) (g : Str → Option Int) (vars : Int) (data : Str) (of_ : Int) (tag0 : Int)
  (hd : d.kind = 3 ∧ vars = d.params ∧ 0 ≤ d.params ∧ g = upd (knownD t) d.name d.params ∧ givenR d.name = false ∧ data = d.name ∧ of_ = d.cons.length ∧ tag0 = 0 ∨ d.kind = 4 ∧ vars = 0 ∧ g = knownD t ∧ data = sExn ∧ of_ = 0 ∧ tag0 = (exns t : Nat)) :
  ∀ (l : List Con) (i : Nat) (out outR : List Place), (∀ c ∈ l, c.has = true → TyIs c.arg) → (d.kind = 4 → i + l.length ≤ 1) → TabEq out outR → (∀ p ∈ out, 0 ≤ p.vars) →
    (consD d.kind g (resR d) vars data of_ l (out.map Place.name) (tag0 + i) out).2 = (consR u d l i outR).2 ∧ TabEq (consD d.kind g (resR d) vars data of_ l (out.map Place.name) (tag0 + i) out).1 (consR u d l i outR).1 ∧ ∀ p ∈ (consD d.kind g (resR d) vars data of_ l (out.map Place.name) (tag0 + i) out).1, 0 ≤ p.vars
 | [], i, out, outR, hT, h4, ho, hvo => ⟨rfl, ho, hvo⟩
 | c :: l, i, out, outR, hT, h4, ho, hvo => by
   have hex : exns u = exns t := by rw [Q8i, Q8i, h.dv]
   have hx0 : d.kind = 4 → i = 0 := fun hh => by have := h4 hh; simp only [List.length_cons] at this; omega
   have hb : (conBad d.kind g vars (tag0 + i) (out.map Place.name) c).1 = (conBadR u d outR c).1 ∧ ((conBad d.kind g vars (tag0 + i) (out.map Place.name) c).1 ≠ 0 → conBad d.kind g vars (tag0 + i) (out.map Place.name) c = conBadR u d outR c) := by
    unfold conBad conBadR
    rw [Qbv, ← ho.names]
    by_cases hm : c.name ∈ out.map Place.name
    ·simp [hm]
    ·rw [if_neg hm, decide_eq_false hm]
     simp only [Bool.false_eq_true, if_false]
     have htag : (decide (d.kind = 4) && decide (tag0 + (i : Int) > 1023)) = (decide (d.kind = 4) && decide (((exns u : Nat) : Int) > 1023)) := by
      by_cases hh : d.kind = 4
      ·rcases hd with ⟨k3, -⟩ | ⟨-, -, -, -, -, rfl⟩
       ·omega
       ·rw [hx0 hh, hex]; simp
      ·simp [hh]
     rw [htag]
     cases (decide (d.kind = 4) && decide (((exns u : Nat) : Int) > 1023)) with
     | true => exact ⟨rfl, fun _ => rfl⟩
     | false =>
       simp only [cond_false]
       cases hc : c.has with
       | false => exact ⟨rfl, fun hx => absurd rfl hx⟩
       | true =>
         simp only [cond_true]
         have hw := Qfh h hv d g vars (hd.imp (fun x => ⟨x.1, x.2.1, x.2.2.1, x.2.2.2.1, x.2.2.2.2.1⟩) fun x => ⟨x.1, x.2.1, x.2.2.1⟩) c (hT c List.mem_cons_self hc)
         rw [hw]
         by_cases hz : (firstW u d (preTy c.arg)).1 = 0
         ·rw [if_neg (by simpa using hz)]
          exact ⟨hz.symm, fun hx => absurd rfl hx⟩
         ·rw [if_pos (by simpa using hz)]
          exact ⟨rfl, fun _ => rfl⟩
   simp only [consD, consR]
   by_cases hz : (conBad d.kind g vars (tag0 + i) (out.map Place.name) c).1 = 0
   ·rw [if_neg (by simpa using hz), if_neg (by rw [← hb.1]; simpa using hz)]
    have hp : conPlace (resR d) vars data (tag0 + i) of_ c = placeR u d i c := by
     unfold conPlace placeR
     rw [Qi2 d hk]
     rcases hd with ⟨k3, rfl, -, -, -, rfl, rfl, rfl⟩ | ⟨k4, rfl, -, rfl, rfl, rfl⟩
     ·simp [k3]
     ·rw [hx0 k4, hex]; simp [k4]
    have hpv : 0 ≤ (placeR u d i c).vars := by
     rw [← hp]
     simp only [conPlace]
     rcases hd with ⟨k3, rfl, hh, -⟩ | ⟨k4, rfl, -⟩
     ·exact hh
     ·exact Int.le_refl _
    have ih := QaT h hv d hk g vars data of_ tag0 hd l (i + 1) (out ++ [placeR u d i c]) (outR ++ [placeR u d i c]) (fun c hc => hT c (List.mem_cons_of_mem _ hc)) (fun hh => by have := h4 hh; simp only [List.length_cons] at this; omega) (ho.app rfl) (fun p hp' => by
     rcases List.mem_append.1 hp' with hp' | hp'
     ·exact hvo p hp'
     ·simp only [List.mem_singleton] at hp'; subst hp'; exact hpv)
    have e1 : tag0 + (i : Int) + 1 = tag0 + ((i + 1 : Nat) : Int) := by omega
    have e2 : out.map Place.name ++ [c.name] = (out ++ [placeR u d i c]).map Place.name := by rw [List.map_append]; rfl
    rw [hp, e1, e2]
    exact ih
   ·rw [if_pos (by simpa using hz), if_pos (by rw [← hb.1]; simpa using hz), hb.2 hz]
    exact ⟨rfl, rfl, by simp⟩
theorem Qjl {t u : List Place} (h : TabEq t u) (hv : ∀ p ∈ t, 0 ≤ p.vars) (d : Dec) (hd : DecOK d) : (addD t d).2 = (addR u d).2 ∧ TabEq (addD t d).1 (addR u d).1 ∧ ∀ p ∈ (addD t d).1, 0 ≤ p.vars := by
 unfold addD addR
 have hex : exns u = exns t := by rw [Q8i, Q8i, h.dv]
 by_cases h3 : d.kind = 3
 ·rw [decide_eq_true h3]
  have hp := hd.data h3
  simp only [cond_true, Bool.not_true, Bool.false_and, cond_false, Bool.true_and]
  have hkn : (knownD t d.name).isSome = ((dtR u d.name).2 || givenR d.name) := by
   rw [Q7T, QfI, ← h.dv]
   cases givenR d.name with
   | true => rfl
   | false =>
     simp only [cond_false, Bool.or_false]
     cases varsOf d.name (dv t) <;> rfl
  rw [hkn]
  cases hx : ((dtR u d.name).2 || givenR d.name) with
  | true => exact ⟨rfl, rfl, by simp⟩
  | false =>
    simp only [Bool.or_eq_false_iff] at hx
    simp only [cond_false]
    have := QaT h hv d (.inl h3) (upd (knownD t) d.name d.params) d.params d.name d.cons.length 0 (.inl ⟨h3, rfl, hp, rfl, hx.2, rfl, rfl, rfl⟩) d.cons 0 t (u.map ownP) hd.arg (fun hh => by omega) (h.trans (TabEq.own u)) hv
    rw [QcX d (.inl h3)]
    have hh2 : (headD d).2 = d.params := by simp [headD, h3]
    rw [hh2]
    simp only [h3] at this
    exact this
 ·rw [decide_eq_false h3]
  simp only [cond_false, Bool.not_false, Bool.true_and, Bool.false_and]
  by_cases h4 : d.kind = 4
  ·rw [decide_eq_true h4]
   simp only [cond_true, Bool.not_true, cond_false]
   have := QaT h hv d (.inr h4) (knownD t) 0 sExn 0 (exns t : Nat) (.inr ⟨h4, rfl, rfl, rfl, rfl, rfl⟩) d.cons 0 t (u.map ownP) hd.arg (fun _ => by have := hd.exn h4; omega) (h.trans (TabEq.own u)) hv
   rw [QcX d (.inr h4)]
   have hh2 : (headD d).2 = 0 := by simp [headD, h4]
   rw [hh2]
   simp only [h4, Int.natCast_zero, Int.add_zero] at this
   exact this
  ·rw [decide_eq_false h4]
   simp only [cond_false, Bool.not_false, cond_true]
   exact ⟨trivial, h.trans (TabEq.own u), hv⟩
end Go.Proofs.Ytinphnakebeloaa
namespace Go.Proofs.Ytinphnakebeloaa
open Go Go.Am
set_option linter.unusedVariables false
def opt (b : TBad) : Option TBad := bif decide (b.kind = 0) then none else some b
theorem Q3T {b : TBad} (h : b.kind = 0) : opt b = none := by unfold opt; rw [decide_eq_true h]; rfl
theorem Z5 {b : TBad} (h : b.kind ≠ 0) : opt b = some b := by unfold opt; rw [decide_eq_false h]; rfl
theorem Q4P {a b : TBad} {x : Option TBad} {f : Option TBad → Option TBad} (hx : x = opt a) (hs : ∀ c, f (some c) = some c) (hn : f none = opt b) : f x = opt (thenB a b) := by
 subst hx
 by_cases h : a.kind = 0
 ·rw [Q3T h, Q52 h, hn]
 ·rw [Z5 h, Q3W h, hs, Z5 h]
def SameM (a b : List Str) : Prop := ∀ x, x ∈ a ↔ x ∈ b
theorem SameM.dec {a b : List Str} (h : SameM a b) (x : Str) : decide (x ∈ a) = decide (x ∈ b) := decide_eq_decide.2 (h x)
theorem SameM.app {a b c d : List Str} (h : SameM a b) (k : SameM c d) : SameM (a ++ c) (d ++ b) := fun x => by
 simp only [List.mem_append, h x, k x]; exact Or.comm
theorem QbE (x : Str) : ∀ (l acc : List Str), x ∈ l.foldl addS acc ↔ x ∈ acc ∨ x ∈ l
 | [], acc => by simp
 | k :: l, acc => by
   rw [List.foldl_cons, QbE x l]
   have : x ∈ addS acc k ↔ x ∈ acc ∨ x = k := by
    unfold addS
    split
    ·rename_i h
     constructor
     ·exact .inl
     ·rintro (h1 | rfl)
      ·exact h1
      ·exact h
    ·simp
   rw [this, List.mem_cons]
   constructor
   ·rintro ((h | h) | h)
    ·exact .inl h
    ·exact .inr (.inl h)
    ·exact .inr (.inr h)
   ·rintro (h | h | h)
    ·exact .inl (.inl h)
    ·exact .inl (.inr h)
    ·exact .inr h
theorem Q9Y {d : Dec} (h : d.kind = 1 → d.case.length = 1) : SameM (namesD d) (namesR d) := fun x => by
 unfold namesD namesOf namesR
 rw [QbE]
 by_cases h1 : d.kind = 1
 ·have := h h1
  simp [h1, this]
 ·simp [h1]
section
variable (t : List Place)
mutual
theorem Q6J (b : TBad) : ∀ (p : Pat) (had : List Str), (scPat (chkI t) p (had, some b)).2 = some b
 | .mk k a nm n l nl, had => by
   simp only [scPat]
   cases (decide (k = 2) || decide (k = 6)) with
   | true =>
     simp only [cond_true]
     have : (if nm ∈ had then (chkI t).fail 9 a nm (some b) else some b) = some b := by split <;> rfl
     rw [this]; exact Q0D b l _
   | false =>
     simp only [cond_false]
     cases decide (k = 4) with
     | true =>
       simp only [cond_true]
       have : (chkI t).con nm a l.length (some b) = some b := by
        simp only [chkI, conO]
        cases findD nm t with
        | none => rfl
        | some p => simp only; split <;> rfl
       rw [this]; exact Q0D b l _
     | false => exact Q0D b l _
theorem Q0D (b : TBad) : ∀ (l : List Pat) (had : List Str), (scPats (chkI t) l (had, some b)).2 = some b
 | [], had => rfl
 | p :: l, had => by
   simp only [scPats]
   have h := Q6J b p had
   rw [show scPat (chkI t) p (had, some b) = ((scPat (chkI t) p (had, some b)).1, some b) from Prod.ext rfl h]
   exact Q0D b l _
end
theorem Q1U (b : TBad) (e : Exp) (bd : List Str) : scExp (chkI t) e bd (some b) = some b := by cases e; simp only [scExp]; rfl
theorem Q1t (b : TBad) : ∀ (l : List Exp) (bd : List Str), scExps (chkI t) l bd (some b) = some b
 | [], _ => rfl
 | e :: l, bd => by simp only [scExps, Q1U, Q1t b l]
theorem Q3M (b : TBad) (c : Case) (bd : List Str) : scCase (chkI t) c bd (some b) = some b := by
 cases c; simp only [scCase, Q6J, Q1U]
theorem Q0h (b : TBad) : ∀ (l : List Case) (bd : List Str), scCases (chkI t) l bd (some b) = some b
 | [], _ => rfl
 | e :: l, bd => by simp only [scCases, Q3M, Q0h b l]
theorem Q5V (b : TBad) : ∀ (l : List Case) (bd : List Str), scVals (chkI t) l bd (some b) = some b
 | [], _ => rfl
 | .mk p e :: l, bd => by simp only [scVals, Q6J, Q1U, Q5V b l]
theorem Q2g (b : TBad) : ∀ (l : List Fun) (bd had : List Str), scFuns (chkI t) l bd had (some b) = some b
 | [], _, _ => rfl
 | .mk nm a c :: l, bd, had => by
   have : (if nm ∈ had then (chkI t).fail 9 a nm (some b) else some b) = some b := by split <;> rfl
   simp only [scFuns, this, Q3M, Q2g b l]
theorem Qad (b : TBad) (d : Dec) (bd : List Str) : (scDec (chkI t) d bd (some b)).2 = some b := by
 cases d with
 | mk k a nm p l lb c cb f fb =>
 simp only [scDec]
 cases decide (k = 1) with
 | true => simp only [cond_true, Q5V]
 | false =>
   cases decide (k = 2) with
   | true => simp only [cond_true, cond_false, Q2g]
   | false => rfl
theorem Q2f (b : TBad) : ∀ (l : List Dec) (bd : List Str), (scDecs (chkI t) l bd (some b)).2 = some b
 | [], _ => rfl
 | d :: l, bd => by simp only [scDecs, Qad, Q2f b l]
end
def FH (t u : List Place) : Prop := ∀ nm, (findD nm t).map Place.has = (findD nm u).map Place.has
theorem QcC (t u : List Place) (hf : FH t u) (nm : Str) (a : Int) (k : Nat) (hk : k ≤ 1) : conO t nm a k none = opt (conR u nm a k) := by
 have h := hf nm
 unfold conO conR
 cases h1 : findD nm t with
 | none =>
   rw [h1] at h
   cases h2 : findD nm u with
   | none => rfl
   | some q => rw [h2] at h; cases h
 | some p =>
   rw [h1] at h
   cases h2 : findD nm u with
   | none => rw [h2] at h; cases h
   | some q =>
     rw [h2] at h
     have hh : p.has = q.has := by simpa using h
     have hd : decide ((k : Int) > 0) = decide ((k : Int) = 1) := by rw [decide_eq_decide]; omega
     simp only [hh, hd]
     split
     ·rfl
     ·rfl
mutual
theorem QaQ {t u : List Place} (hf : FH t u) : ∀ (p : Pat) (had : List Str), RN (nodesPat p) → (scPat (chkI t) p (had, none)).2 = opt (patR u p had).1 ∧ ((patR u p had).1.kind = 0 → (scPat (chkI t) p (had, none)).1 = had ++ varsPat p ∧ (patR u p had).2 = had ++ varsPat p)
 | .mk k a nm n l nl, had, hr => by
   have hw : wrongPatB (.mk k a nm n l nl) = 0 := by simp only [nodesPat] at hr; exact hr _ List.mem_cons_self
   have hl : RN (nodesPats l) := by simp only [nodesPat] at hr; exact hr.t
   simp only [scPat, patR]
   have hvo : varsPat (.mk k a nm n l nl) = (bif decide (k = 2) || decide (k = 6) then [nm] else []) ++ varsPats l := by simp only [varsPat, varOf, Pat.kind, Pat.name]; rfl
   rw [hvo]
   cases hx : (decide (k = 2) || decide (k = 6)) with
   | true =>
     simp only [cond_true, Bool.true_and]
     have h4 : decide (k = 4) = false := by
      simp only [Bool.or_eq_true, decide_eq_true_eq] at hx
      simp only [decide_eq_false_iff_not]; omega
     by_cases hm : nm ∈ had
     ·rw [decide_eq_true hm, cond_true, if_pos hm]
      refine ⟨?_, fun h => absurd h (by simp)⟩
      rw [Z5 (by simp)]
      exact Q0D t ⟨9, a, nm⟩ l _
     ·rw [decide_eq_false hm, cond_false, if_neg hm, h4, Bool.false_and, cond_false]
      have ih := Q6y hf l (had ++ [nm]) hl
      refine ⟨ih.1, fun h => ?_⟩
      obtain ⟨h1, h2⟩ := ih.2 h
      rw [h1, h2]; simp
   | false =>
     simp only [cond_false, Bool.false_and, List.nil_append]
     by_cases h4 : k = 4
     ·have hk := Qi0 hw h4
      simp only [Pat.kids] at hk
      rw [decide_eq_true h4, cond_true, Bool.true_and]
      have hc : (chkI t).con nm a l.length none = opt (conR u nm a l.length) := QcC t u hf nm a l.length hk
      rw [hc]
      by_cases hz : (conR u nm a l.length).kind = 0
      ·rw [Q3T hz, decide_eq_true hz, Bool.not_true, cond_false]
       exact Q6y hf l had hl
      ·rw [Z5 hz, decide_eq_false hz, Bool.not_false, cond_true]
       exact ⟨by rw [Z5 hz]; exact Q0D t _ l _, fun h => absurd h hz⟩
     ·rw [decide_eq_false h4, cond_false, Bool.false_and, cond_false]
      exact Q6y hf l had hl
theorem Q6y {t u : List Place} (hf : FH t u) : ∀ (l : List Pat) (had : List Str), RN (nodesPats l) → (scPats (chkI t) l (had, none)).2 = opt (patsR u l had).1 ∧ ((patsR u l had).1.kind = 0 → (scPats (chkI t) l (had, none)).1 = had ++ varsPats l ∧ (patsR u l had).2 = had ++ varsPats l)
 | [], had, _ => by simp only [scPats, patsR, varsPats, List.append_nil]; exact ⟨rfl, fun _ => ⟨trivial, trivial⟩⟩
 | p :: l, had, hr => by
   simp only [nodesPats] at hr
   obtain ⟨h1, h2⟩ := QaQ hf p had hr.l
   simp only [scPats, patsR, varsPats]
   by_cases hz : (patR u p had).1.kind = 0
   ·obtain ⟨h3, h4⟩ := h2 hz
    rw [Q3T hz] at h1
    have ih := Q6y hf l (had ++ varsPat p) hr.r
    rw [show scPat (chkI t) p (had, none) = (had ++ varsPat p, none) from Prod.ext h3 h1, decide_eq_true hz, cond_true, h4]
    rw [← List.append_assoc]
    exact ih
   ·rw [Z5 hz] at h1
    rw [show scPat (chkI t) p (had, none) = ((scPat (chkI t) p (had, none)).1, some (patR u p had).1) from Prod.ext rfl h1, decide_eq_false hz, cond_false]
    exact ⟨by rw [Z5 hz]; exact Q0D t _ l _, fun h => absurd h hz⟩
end
mutual
theorem QaP {t u : List Place} (hf : FH t u) : ∀ (e : Exp) (bd bdR : List Str), SameM bd bdR → RN (nodesExp e) → scExp (chkI t) e bd none = opt (expR u e bdR)
 | .mk k a nm n l lb c cb d db, bd, bdR, hb, hr => by
   have hw : wrongExpB (.mk k a nm n l lb c cb d db) = 0 := by simp only [nodesExp] at hr; exact hr _ List.mem_cons_self
   have hrd : RN (nodesDecs true d) := by simp only [nodesExp] at hr; exact hr.t.l
   have hrl : RN (nodesExps l) := by simp only [nodesExp] at hr; exact hr.t.r.l
   have hrc : RN (nodesCases c) := by simp only [nodesExp] at hr; exact hr.t.r.r
   obtain ⟨h1, h2⟩ := Qcy hf d bd bdR hb hrd
   have hrest : ∀ st, st = none → scCases (chkI t) c (scDecs (chkI t) d bd st).1 (scExps (chkI t) l (scDecs (chkI t) d bd st).1 (scDecs (chkI t) d bd st).2) = opt (thenB (decsR u d bdR) (thenB (expsR u l (bdR ++ d.flatMap namesR)) (onesR u c (bdR ++ d.flatMap namesR)))) := fun st hst => by
    subst hst
    by_cases hz : (decsR u d bdR).kind = 0
    ·have hb2 := h2 hz
     rw [h1, Q3T hz, Q52 hz]
     exact Q4P (f := fun x => scCases (chkI t) c (scDecs (chkI t) d bd none).1 x) (Qcz hf l _ _ hb2 hrl) (fun b => Q0h t b c _) (Qbo hf c _ _ hb2 hrc)
    ·rw [h1, Z5 hz, Q3W hz, Q1t, Q0h, Z5 hz]
   simp only [scExp, expR, scVar]
   rw [show (chkI t).stop none = false from rfl, cond_false]
   by_cases hk2 : k = 2
   ·rw [decide_eq_true hk2, cond_true, Bool.true_and]
    by_cases hm : nm ∈ bdR
    ·rw [if_pos ((hb nm).2 hm), decide_eq_true hm, Bool.not_true, cond_false, decide_eq_false (by omega), Bool.false_and, cond_false]
     exact hrest none rfl
    ·rw [if_neg (fun h => hm ((hb nm).1 h)), decide_eq_false hm, Bool.not_false, cond_true]
     have : (chkI t).free nm a none = some ⟨16, a, nm⟩ := rfl
     rw [this, Q2f, Q1t, Q0h, Z5 (by simp)]
   ·rw [decide_eq_false hk2, cond_false, Bool.false_and, cond_false]
    by_cases hk3 : k = 3
    ·have hkk := QhN hw hk3
     simp only [Exp.kids] at hkk
     rw [decide_eq_true hk3, cond_true, Bool.true_and]
     have hc : (chkI t).con nm a l.length none = opt (conR u nm a l.length) := QcC t u hf nm a l.length hkk
     rw [hc]
     by_cases hz : (conR u nm a l.length).kind = 0
     ·rw [Q3T hz, decide_eq_true hz, Bool.not_true, cond_false]
      exact hrest none rfl
     ·rw [Z5 hz, decide_eq_false hz, Bool.not_false, cond_true, Q2f, Q1t, Q0h, Z5 hz]
    ·rw [decide_eq_false hk3, cond_false, Bool.false_and, cond_false]
     exact hrest none rfl
theorem Qcz {t u : List Place} (hf : FH t u) : ∀ (l : List Exp) (bd bdR : List Str), SameM bd bdR → RN (nodesExps l) → scExps (chkI t) l bd none = opt (expsR u l bdR)
 | [], _, _, _, _ => by simp only [scExps, expsR]; rfl
 | e :: l, bd, bdR, hb, hr => by
   simp only [nodesExps] at hr
   simp only [scExps, expsR]
   exact Q4P (f := scExps (chkI t) l bd) (QaP hf e bd bdR hb hr.l) (fun b => Q1t t b l bd) (Qcz hf l bd bdR hb hr.r)
theorem Qcx {t u : List Place} (hf : FH t u) : ∀ (c : Case) (bd bdR : List Str), SameM bd bdR → RN (nodesCase c) → scCase (chkI t) c bd none = opt (oneR u c bdR)
 | .mk p e, bd, bdR, hb, hr => by
   simp only [nodesCase] at hr
   obtain ⟨h1, h2⟩ := QaQ hf p [] hr.l
   simp only [scCase, oneR]
   by_cases hz : (patR u p []).1.kind = 0
   ·obtain ⟨h3, h4⟩ := h2 hz
    rw [List.nil_append] at h4
    rw [h1, Q3T hz, Q52 hz, h4]
    exact QaP hf e _ _ (fun x => by simp only [List.mem_append, hb x]; exact Or.comm) hr.r
   ·rw [h1, Z5 hz, Q3W hz, Q1U, Z5 hz]
theorem Qbo {t u : List Place} (hf : FH t u) : ∀ (l : List Case) (bd bdR : List Str), SameM bd bdR → RN (nodesCases l) → scCases (chkI t) l bd none = opt (onesR u l bdR)
 | [], _, _, _, _ => by simp only [scCases, onesR]; rfl
 | c :: l, bd, bdR, hb, hr => by
   simp only [nodesCases] at hr
   simp only [scCases, onesR]
   exact Q4P (f := scCases (chkI t) l bd) (Qcx hf c bd bdR hb hr.l) (fun b => Q0h t b l bd) (Qbo hf l bd bdR hb hr.r)
theorem Qcy {t u : List Place} (hf : FH t u) : ∀ (l : List Dec) (bd bdR : List Str), SameM bd bdR → RN (nodesDecs true l) → (scDecs (chkI t) l bd none).2 = opt (decsR u l bdR) ∧ ((decsR u l bdR).kind = 0 → SameM (scDecs (chkI t) l bd none).1 (bdR ++ l.flatMap namesR))
 | [], bd, bdR, hb, _ => by simp only [scDecs, decsR, List.flatMap_nil, List.append_nil]; exact ⟨rfl, fun _ => hb⟩
 | d :: l, bd, bdR, hb, hr => by
   simp only [nodesDecs] at hr
   obtain ⟨h1, h2⟩ := Qeh hf true d bd bdR hb hr.l
   simp only [scDecs, decsR, List.flatMap_cons]
   rw [← List.append_assoc]
   by_cases hz : (decR u d bdR).kind = 0
   ·rw [Q3T hz] at h1
    rw [h1, Q52 hz]
    exact Qcy hf l _ _ h2 hr.r
   ·rw [Z5 hz] at h1
    rw [h1, Q3W hz]
    exact ⟨by rw [Z5 hz]; exact Q2f t _ l _, fun h => absurd h hz⟩
theorem Qeh {t u : List Place} (hf : FH t u) : ∀ (i : Bool) (d : Dec) (bd bdR : List Str), SameM bd bdR → RN (nodesDec i d) → (scDec (chkI t) d bd none).2 = opt (decR u d bdR) ∧ SameM (scDec (chkI t) d bd none).1 (bdR ++ namesR d)
 | i, .mk k a s p l lb c cb f fb, bd, bdR, hb, hr => by
   have hdv := Q8g hr
   have hrc : RN (nodesCases c) := by simp only [nodesDec] at hr; exact hr.t.l
   have hrf : RN (nodesFuns f) := by simp only [nodesDec] at hr; exact hr.t.r.l
   have hn := Q9Y (d := .mk k a s p l lb c cb f fb) hdv.1
   have hn' : SameM (namesOf k c f) (namesR (.mk k a s p l lb c cb f fb)) := hn
   have hbn : SameM (namesOf k c f ++ bd) (bdR ++ namesR (.mk k a s p l lb c cb f fb)) := hn'.app hb
   simp only [Dec.kind, Dec.case, Dec.funs] at hdv
   simp only [scDec, decR]
   by_cases h1 : k = 1
   ·rw [decide_eq_true h1]
    simp only [cond_true]
    exact ⟨Qgw hf c bd bdR hb hrc (hdv.1 h1), hbn⟩
   ·rw [decide_eq_false h1]
    simp only [cond_false]
    by_cases h2 : k = 2
    ·rw [decide_eq_true h2]
     simp only [cond_true]
     exact ⟨QcA hf f _ _ [] hbn hrf, hbn⟩
    ·rw [decide_eq_false h2]
     simp only [cond_false]
     have hf0 : f = [] := (hdv.2 h1).resolve_left h2
     subst hf0
     refine ⟨by simp only [funsR]; rfl, ?_⟩
     have : namesR (.mk k a s p l lb c cb [] fb) = [] := by simp [namesR, Dec.kind, h1, h2]
     rw [this, List.append_nil]
     exact hb
theorem Qgw {t u : List Place} (hf : FH t u) : ∀ (c : List Case) (bd bdR : List Str), SameM bd bdR → RN (nodesCases c) → c.length = 1 → scVals (chkI t) c bd none = opt (valR u c bdR)
 | [], _, _, _, _, h => by cases h
 | .mk p e :: [], bd, bdR, hb, hr, _ => by
   simp only [nodesCases, nodesCase, List.append_nil] at hr
   obtain ⟨h1, h2⟩ := QaQ hf p [] hr.l
   simp only [scVals, valR]
   exact Q4P (f := fun x => scExp (chkI t) e bd x) h1 (fun b => Q1U t b e bd) (QaP hf e bd bdR hb hr.r)
 | _ :: _ :: _, _, _, _, _, h => by simp only [List.length_cons] at h; omega
theorem QcA {t u : List Place} (hf : FH t u) : ∀ (l : List Fun) (bd bdR had : List Str), SameM bd bdR → RN (nodesFuns l) → scFuns (chkI t) l bd had none = opt (funsR u l bdR had)
 | [], _, _, _, _, _ => by simp only [scFuns, funsR]; rfl
 | .mk nm a c :: l, bd, bdR, had, hb, hr => by
   simp only [nodesFuns, nodesFun] at hr
   simp only [scFuns, funsR]
   by_cases hm : nm ∈ had
   ·rw [if_pos hm, decide_eq_true hm, cond_true]
    have : (chkI t).fail 9 a nm none = some ⟨9, a, nm⟩ := rfl
    rw [this, Q3M, Q2g, Z5 (by simp)]
   ·rw [if_neg hm, decide_eq_false hm, cond_false]
    exact Q4P (f := scFuns (chkI t) l bd (had ++ [nm])) (Qcx hf c bd bdR hb hr.l.t) (fun b => Q2g t b l bd _) (QcA hf l bd bdR _ hb hr.r)
end
theorem QgG {t u : List Place} (h : TabEq t u) : FH t u := fun nm => by
 have h1 : ∀ l : List Place, (findD nm l).map Place.has = (findD nm (l.map ownP)).map Place.has := fun l => by
  induction l with
  | nil => rfl
  | cons p l ih =>
    simp only [List.map_cons, findD]
    by_cases hn : p.name = nm
    ·have : (ownP p).name = nm := hn
     rw [if_pos hn, if_pos this]; rfl
    ·have : ¬ (ownP p).name = nm := hn
     rw [if_neg hn, if_neg this]; exact ih
 rw [h1 t, h1 u, h]
theorem Q4D (b : TBad) : ∀ (P : List Dec) (t : List Place) (bd : List Str), (chkDecs P t bd (some b)).2 = some b
 | [], _, _ => rfl
 | d :: P, t, bd => by simp only [chkDecs, Qad, Q4D b P]
theorem Q9D : ∀ (P : List Dec) (t u : List Place) (bd bdR : List Str), TabEq t u → (∀ p ∈ t, 0 ≤ p.vars) → (∀ d ∈ P, DecOK d) → SameM bd bdR → RN (nodesDecs false P) → (chkDecs P t bd none).2 = opt (chkR P u bdR)
 | [], _, _, _, _, _, _, _, _, _ => by simp only [chkDecs, chkR]; rfl
 | d :: P, t, u, bd, bdR, h, hv, hd, hb, hr => by
   simp only [nodesDecs] at hr
   obtain ⟨h1, h2⟩ := Qeh (QgG h) false d bd bdR hb hr.l
   obtain ⟨h3, h4, h5⟩ := Qjl h hv d (hd d List.mem_cons_self)
   simp only [chkDecs, chkR]
   by_cases hz : (decR u d bdR).kind = 0
   ·rw [h1, Q3T hz, Q52 hz]
    exact Q9D P _ _ _ _ h4 h5 (fun q hq => hd q (List.mem_cons_of_mem _ hq)) h2 hr.r
   ·rw [h1, Z5 hz, Q3W hz, Q4D, Z5 hz]
theorem Qda : ∀ (P : List Dec) (t : List Place), (ofD P t).2.kind = 0 → (ofD P t).2 = .zero
 | [], _, _ => rfl
 | d :: P, t, h => by
   simp only [ofD] at h ⊢
   split at h
   ·rename_i hx; exact absurd h hx
   ·rename_i hx; rw [if_neg hx]; exact Qda P _ h
theorem Qgy {i : Bool} {d : Dec} (hr : RN (nodesDec i d)) : DecOK d := by
 have hw : wrongDecB d i = 0 := by cases d; simp only [nodesDec] at hr; exact hr _ List.mem_cons_self
 have D := Q9I hw
 refine ⟨D.kind, fun h => (D.data h).2.2.1, fun h => by have := (D.exn h).2.2; omega, fun c hc hh u hu hk => ?_⟩
 have hmem : ∀ (l : List Con), c ∈ l → .ty u c.at_ ∈ nodesCons l := fun l => by
  induction l with
  | nil => intro h; cases h
  | cons x l ih =>
    intro h
    simp only [nodesCons, List.mem_append]
    rcases List.mem_cons.1 h with rfl | h
    ·left
     simp only [nodesCon, hh, cond_true]
     refine List.mem_cons_of_mem _ ?_
     rw [Q5T]
     exact List.mem_map.2 ⟨u, hu, rfl⟩
    ·exact .inr (ih h)
 have hn : .ty u c.at_ ∈ nodesDec i d := by
  cases d with
  | mk k a s p l lb cs cb f fb =>
  simp only [nodesDec]
  exact List.mem_cons_of_mem _ (List.mem_append_right _ (List.mem_append_right _ (hmem l hc)))
 have ht := QmN (t := u) (hr _ hn)
 exact ⟨(ht.2.1 hk).1, (ht.2.1 hk).2.1⟩
theorem Qe4 : ∀ p ∈ startD, 0 ≤ p.vars := by
 intro p hp
 simp only [startD, List.mem_cons, List.not_mem_nil, or_false] at hp
 rcases hp with rfl | rfl | rfl | rfl | rfl | rfl <;> exact Int.le_refl _
end Go.Proofs.Ytinphnakebeloaa
namespace Go.Proofs.Ytinphnakebeloaa
open Go Go.Am
set_option linter.unusedVariables false
mutual
theorem Q1V : ∀ (p : Pat) (st : List Str × List Str), (scPat freeI p st).2 = st.2
 | .mk k a nm n l lb, st => by
   simp only [scPat]
   rw [Q8R]
   cases (decide (k = 2) || decide (k = 6)) <;> cases decide (k = 4) <;> simp [freeI]
theorem Q8R : ∀ (l : List Pat) (st : List Str × List Str), (scPats freeI l st).2 = st.2
 | [], st => rfl
 | p :: l, st => by simp only [scPats]; rw [Q8R, Q1V]
end
theorem Qf6 (k a : Int) (nm : Str) (n : Nat) {bd bdR : List Str} (h : SameM bd bdR) (st : List Str) : scVar freeI k a nm n bd st = bif decide (k = 2) && !decide (nm ∈ bdR) && !decide (nm ∈ st) then st ++ [nm] else st := by
 unfold scVar
 cases hk : decide (k = 2) with
 | false => cases decide (k = 3) <;> simp [freeI]
 | true =>
   rw [← h.dec nm]
   by_cases hm : nm ∈ bd
   ·simp [hm]
   ·by_cases h2 : nm ∈ st <;> simp [hm, h2, freeI, addS]
mutual
theorem Q7M : ∀ (e : Exp) (bd bdR st : List Str), SameM bd bdR → RN (nodesExp e) → scExp freeI e bd st = freeR e bdR st
 | .mk k a nm n l lb c cb d db, bd, bdR, st, h, hr => by
   simp only [nodesExp] at hr
   simp only [scExp, freeR, Qf6 k a nm l.length h st]
   rw [show freeI.stop st = false from rfl, cond_false]
   generalize (bif decide (k = 2) && !decide (nm ∈ bdR) && !decide (nm ∈ st) then st ++ [nm] else st) = F
   obtain ⟨h1, h2⟩ := Qb1 d bd bdR F h hr.t.l
   rw [Qer l _ _ _ h2 hr.t.r.l, QcM c _ _ _ h2 hr.t.r.r, h1]
theorem Qer : ∀ (l : List Exp) (bd bdR st : List Str), SameM bd bdR → RN (nodesExps l) → scExps freeI l bd st = freeExps l bdR st
 | [], _, _, _, _, _ => rfl
 | e :: l, bd, bdR, st, h, hr => by
   simp only [nodesExps] at hr
   simp only [scExps, freeExps]
   rw [Q7M e bd bdR st h hr.l, Qer l bd bdR _ h hr.r]
theorem QcM : ∀ (l : List Case) (bd bdR st : List Str), SameM bd bdR → RN (nodesCases l) → scCases freeI l bd st = freeCases l bdR st
 | [], _, _, _, _, _ => rfl
 | .mk p e :: l, bd, bdR, st, h, hr => by
   simp only [nodesCases, nodesCase] at hr
   simp only [scCases, freeCases, scCase, Q1V]
   have hs : SameM (varsPat p ++ bd) (bdR ++ varsPat p) := SameM.app (fun _ => .rfl) h
   rw [Q7M e _ _ st hs hr.l.r, QcM l bd bdR _ h hr.r]
theorem Qb1 : ∀ (l : List Dec) (bd bdR st : List Str), SameM bd bdR → RN (nodesDecs true l) → (scDecs freeI l bd st).2 = (freeDecs l bdR st).2 ∧ SameM (scDecs freeI l bd st).1 (freeDecs l bdR st).1
 | [], _, _, _, h, _ => ⟨rfl, h⟩
 | .mk k a s p l lb c cb f fb :: r, bd, bdR, st, h, hr => by
   simp only [nodesDecs] at hr
   have hw : wrongDecB (.mk k a s p l lb c cb f fb) true = 0 := by
    have := hr.l
    simp only [nodesDec] at this; exact this _ List.mem_cons_self
   have D := Q9I hw
   simp only [Dec.kind, Dec.case, Dec.funs] at D
   have hn : SameM (namesOf k c f) (namesR (.mk k a s p l lb c cb f fb)) := Q9Y (d := .mk k a s p l lb c cb f fb) (Q8g hr.l).1
   have hb : SameM (namesOf k c f ++ bd) (bdR ++ namesR (.mk k a s p l lb c cb f fb)) := SameM.app hn h
   have hl := hr.l
   simp only [nodesDec] at hl
   simp only [scDecs, freeDecs, scDec]
   rcases D.inn rfl with h1 | h1
   ·have hf : f = [] := len0 (D.val h1).2.1
    have hc : c.length = 1 := by have := (D.val h1).1; omega
    rw [decide_eq_true h1, cond_true, cond_true]
    simp only
    rw [QhP c bd bdR st h hl.t.l hc]
    have hz : ∀ b F, freeFuns f b F = F := by rw [hf]; intros; rfl
    rw [hz]
    exact Qb1 r _ _ _ hb hr.r
   ·have h2 : k ≠ 1 := by omega
    rw [decide_eq_false h2, cond_false, cond_false, decide_eq_true h1, cond_true]
    simp only
    rw [Qes f _ _ [] st hb hl.t.r.l]
    exact Qb1 r _ _ _ hb hr.r
theorem QhP : ∀ (l : List Case) (bd bdR st : List Str), SameM bd bdR → RN (nodesCases l) → l.length = 1 → scVals freeI l bd st = freeVal l bdR st
 | .mk p e :: [], bd, bdR, st, h, hr, _ => by
   simp only [nodesCases, nodesCase] at hr
   simp only [scVals, freeVal, Q1V]
   exact Q7M e bd bdR st h hr.l.r
theorem Qes : ∀ (l : List Fun) (bd bdR had st : List Str), SameM bd bdR → RN (nodesFuns l) → scFuns freeI l bd had st = freeFuns l bdR st
 | [], _, _, _, _, _, _ => rfl
 | .mk nm a (.mk p e) :: l, bd, bdR, had, st, h, hr => by
   simp only [nodesFuns, nodesFun, nodesCase] at hr
   simp only [scFuns, freeFuns, freeCase, scCase, Q1V]
   have hs : SameM (varsPat p ++ bd) (bdR ++ varsPat p) := SameM.app (fun _ => .rfl) h
   rw [show (if nm ∈ had then freeI.fail 9 a nm st else st) = st by unfold freeI; simp, Q7M e _ _ st hs hr.l.t.r, Qes l bd bdR _ _ h hr.r]
end
def freeDR (e : Exp) : List Str := if rightN (nodesExp e) (deepExp e) ≠ .zero then [] else freeR e [] []
def bindsDR (d : Dec) : List Str := if rightN (nodesDecs false [d]) (deepDecs [d] 0) ≠ .zero then [] else (namesR d).foldl addS []
theorem QhQ (e : Exp) : freeD e = freeDR e := by
 unfold freeD freeDR
 by_cases h : rightN (nodesExp e) (deepExp e) = .zero
 ·rw [if_neg (by simpa using h), if_neg (by simpa using h)]
  exact Q7M e [] [] [] (fun _ => .rfl) (Q2e h)
 ·rw [if_pos h, if_pos h]
theorem Qgs (d : Dec) : bindsD d = bindsDR d := by
 unfold bindsD bindsDR
 by_cases h : rightN (nodesDecs false [d]) (deepDecs [d] 0) = .zero
 ·rw [if_neg (by simpa using h), if_neg (by simpa using h)]
  have hr : RN (nodesDec false d) := by
   have : RN (nodesDecs false [d]) := Q2e h
   simp only [nodesDecs] at this; exact this.l
  have hd := (Q8g hr).1
  unfold namesD namesOf namesR
  by_cases hk : d.kind = 1
  ·rw [decide_eq_true hk, hd hk]; rfl
  ·rw [decide_eq_false hk]; rfl
 ·rw [if_pos h, if_pos h]
end Go.Proofs.Ytinphnakebeloaa
namespace Go.Proofs.Ytinphnakebeloaa
open Go Go.Am
set_option linter.unusedVariables false
def SubK (bd b0 K : List Str) : Prop := ∀ x ∈ bd, x ∈ b0 ∨ x ∈ K
theorem SubK.app {bd b0 K : List Str} (h : SubK bd b0 K) (n : List Str) : SubK (n ++ bd) (n ++ b0) K := fun x hx => by
 rcases List.mem_append.1 hx with hx | hx
 ·exact .inl (List.mem_append_left _ hx)
 ·rcases h x hx with h | h
  ·exact .inl (List.mem_append_right _ h)
  ·exact .inr h
def InK (f st K : List Str) : Prop := ∀ x ∈ f, x ∈ st ∨ x ∈ K
theorem InK.refl (f K : List Str) : InK f f K := fun _ h => .inl h
theorem InK.trans {a b c K : List Str} (h : InK a b K) (g : InK b c K) : InK a c K := fun x hx => by
 rcases h x hx with h | h
 ·exact g x h
 ·exact .inr h
section
variable (t : List Place)
theorem Q7Y {e : Exp} {bd : List Str} {st : Option TBad} (h : scExp (chkI t) e bd st = none) : st = none := by
 cases st with
 | none => rfl
 | some b => rw [Q1U] at h; cases h
theorem Qaf {e : List Exp} {bd : List Str} {st : Option TBad} (h : scExps (chkI t) e bd st = none) : st = none := by
 cases st with
 | none => rfl
 | some b => rw [Q1t] at h; cases h
theorem Q8Q {e : List Case} {bd : List Str} {st : Option TBad} (h : scCases (chkI t) e bd st = none) : st = none := by
 cases st with
 | none => rfl
 | some b => rw [Q0h] at h; cases h
theorem Qah {e : List Case} {bd : List Str} {st : Option TBad} (h : scVals (chkI t) e bd st = none) : st = none := by
 cases st with
 | none => rfl
 | some b => rw [Q5V] at h; cases h
theorem Qac {e : Case} {bd : List Str} {st : Option TBad} (h : scCase (chkI t) e bd st = none) : st = none := by
 cases st with
 | none => rfl
 | some b => rw [Q3M] at h; cases h
theorem Qag {e : List Fun} {bd had : List Str} {st : Option TBad} (h : scFuns (chkI t) e bd had st = none) : st = none := by
 cases st with
 | none => rfl
 | some b => rw [Q2g] at h; cases h
theorem Qae {e : List Dec} {bd : List Str} {st : Option TBad} (h : (scDecs (chkI t) e bd st).2 = none) : st = none := by
 cases st with
 | none => rfl
 | some b => rw [Q2f] at h; cases h
theorem Qdl (k a : Int) (nm : Str) (n : Nat) {bd b0 K : List Str} (hs : SubK bd b0 K) (st : List Str) (h : scVar (chkI t) k a nm n bd none = none) : InK (scVar freeI k a nm n b0 st) st K := by
 unfold scVar at h ⊢
 cases hk : decide (k = 2) with
 | false => cases decide (k = 3) <;> exact InK.refl _ _
 | true =>
   rw [hk] at h
   simp only [cond_true] at h ⊢
   by_cases hm : nm ∈ bd
   ·by_cases h0 : nm ∈ b0
    ·rw [if_pos h0]; exact InK.refl _ _
    ·rw [if_neg h0]
     have hK : nm ∈ K := (hs nm hm).resolve_left h0
     intro x hx
     simp only [freeI, addS] at hx
     split at hx
     ·exact .inl hx
     ·rcases List.mem_append.1 hx with hx | hx
      ·exact .inl hx
      ·simp only [List.mem_singleton] at hx; subst hx; exact .inr hK
   ·rw [if_neg hm] at h; cases h
mutual
theorem Q9E : ∀ (e : Exp) (bd b0 K st : List Str), SubK bd b0 K → scExp (chkI t) e bd none = none → InK (scExp freeI e b0 st) st K
 | .mk k a nm n l lb c cb d db, bd, b0, K, st, hs, h => by
   simp only [scExp] at h ⊢
   rw [show (chkI t).stop none = false from rfl, cond_false] at h
   rw [show freeI.stop st = false from rfl, cond_false]
   have h3 := Q8Q t h
   have h2 := Qaf t h3
   have h1 := Qae t h2
   have iF := Qdl t k a nm l.length hs st h1
   rw [h1] at h2 h3 h
   rw [h2] at h3 h
   rw [h3] at h
   obtain ⟨i1, s1⟩ := Qei d bd b0 K (scVar freeI k a nm l.length b0 st) hs h2
   exact (QcB c _ _ K _ s1 h).trans ((Qej l _ _ K _ s1 h3).trans (i1.trans iF))
theorem Qej : ∀ (l : List Exp) (bd b0 K st : List Str), SubK bd b0 K → scExps (chkI t) l bd none = none → InK (scExps freeI l b0 st) st K
 | [], _, _, _, _, _, _ => InK.refl _ _
 | e :: l, bd, b0, K, st, hs, h => by
   simp only [scExps] at h ⊢
   have h1 := Qaf t h
   rw [h1] at h
   exact (Qej l bd b0 K _ hs h).trans (Q9E e bd b0 K st hs h1)
theorem QaR : ∀ (c : Case) (bd b0 K st : List Str), SubK bd b0 K → scCase (chkI t) c bd none = none → InK (scCase freeI c b0 st) st K
 | .mk p e, bd, b0, K, st, hs, h => by
   simp only [scCase, Q1V] at h ⊢
   have h1 := Q7Y t h
   rw [h1] at h
   exact Q9E e _ _ K st (hs.app _) h
theorem QcB : ∀ (l : List Case) (bd b0 K st : List Str), SubK bd b0 K → scCases (chkI t) l bd none = none → InK (scCases freeI l b0 st) st K
 | [], _, _, _, _, _, _ => InK.refl _ _
 | c :: l, bd, b0, K, st, hs, h => by
   simp only [scCases] at h ⊢
   have h1 := Q8Q t h
   rw [h1] at h
   exact (QcB l bd b0 K _ hs h).trans (QaR c bd b0 K st hs h1)
theorem Qei : ∀ (l : List Dec) (bd b0 K st : List Str), SubK bd b0 K → (scDecs (chkI t) l bd none).2 = none → InK (scDecs freeI l b0 st).2 st K ∧ SubK (scDecs (chkI t) l bd none).1 (scDecs freeI l b0 st).1 K
 | [], _, _, _, _, hs, _ => ⟨InK.refl _ _, hs⟩
 | d :: l, bd, b0, K, st, hs, h => by
   simp only [scDecs] at h ⊢
   have h1 := Qae t h
   obtain ⟨i1, s1⟩ := Qjr d bd b0 K st hs h1
   rw [h1] at h ⊢
   obtain ⟨i2, s2⟩ := Qei l _ _ K _ s1 h
   exact ⟨i2.trans i1, s2⟩
theorem Qjr : ∀ (d : Dec) (bd b0 K st : List Str), SubK bd b0 K → (scDec (chkI t) d bd none).2 = none → InK (scDec freeI d b0 st).2 st K ∧ SubK (scDec (chkI t) d bd none).1 (scDec freeI d b0 st).1 K
 | .mk k a s p l lb c cb f fb, bd, b0, K, st, hs, h => by
   simp only [scDec] at h ⊢
   by_cases h1 : k = 1
   ·rw [decide_eq_true h1] at h ⊢
    simp only [cond_true] at h ⊢
    exact ⟨Qel c bd b0 K st hs h, hs.app _⟩
   ·rw [decide_eq_false h1] at h ⊢
    simp only [cond_false] at h ⊢
    by_cases h2 : k = 2
    ·rw [decide_eq_true h2] at h ⊢
     simp only [cond_true] at h ⊢
     exact ⟨Qek f _ _ K [] st (hs.app _) h, hs.app _⟩
    ·rw [decide_eq_false h2] at h ⊢
     simp only [cond_false] at h ⊢
     exact ⟨InK.refl _ _, hs⟩
theorem Qel : ∀ (l : List Case) (bd b0 K st : List Str), SubK bd b0 K → scVals (chkI t) l bd none = none → InK (scVals freeI l b0 st) st K
 | [], _, _, _, _, _, _ => InK.refl _ _
 | .mk p e :: l, bd, b0, K, st, hs, h => by
   simp only [scVals, Q1V] at h ⊢
   have h2 := Qah t h
   have h1 := Q7Y t h2
   rw [h1] at h2 h
   rw [h2] at h
   exact (Qel l bd b0 K _ hs h).trans (Q9E e bd b0 K st hs h2)
theorem Qek : ∀ (l : List Fun) (bd b0 K had st : List Str), SubK bd b0 K → scFuns (chkI t) l bd had none = none → InK (scFuns freeI l b0 had st) st K
 | [], _, _, _, _, _, _, _ => InK.refl _ _
 | .mk nm a c :: l, bd, b0, K, had, st, hs, h => by
   simp only [scFuns] at h ⊢
   have h2 := Qag t h
   have h1 := Qac t h2
   rw [h1] at h2 h
   rw [h2] at h
   rw [show (if nm ∈ had then freeI.fail 9 a nm st else st) = st by unfold freeI; simp]
   exact (Qek l bd b0 K _ _ hs h).trans (QaR c bd b0 K st hs h2)
end
theorem Qbz : ∀ (l : List Fun) (bd had : List Str), scFuns (chkI t) l bd had none = none → ∀ f ∈ l, scCase (chkI t) f.case bd none = none
 | .mk nm a c :: l, bd, had, h, f, hf => by
   simp only [scFuns] at h
   have h2 := Qag t h
   have h1 := Qac t h2
   rw [h1] at h2 h
   rw [h2] at h
   rcases List.mem_cons.1 hf with rfl | hf
   ·exact h2
   ·exact Qbz l bd _ h f hf
end
def fnE (c : Case) : Exp := .mk 5 0 [] 0 [] true [c] false [] true
theorem QeP {t : List Place} {d : Dec} {bd : List Str} (h : (scDec (chkI t) d bd none).2 = none) (hk : d.kind = 2) : ∀ f ∈ d.funs, ∀ x ∈ freeD (fnE f.case), x ∈ namesD d ++ bd := by
 intro f hf x hx
 cases d with
 | mk k a s p l lb c cb fs fb =>
 simp only [Dec.kind] at hk
 subst hk
 simp only [Dec.funs] at hf
 have hc : scCase (chkI t) f.case (namesD (.mk 2 a s p l lb c cb fs fb) ++ bd) none = none := by
  simp only [scDec, Int.reduceEq, decide_false, decide_true, cond_false, cond_true] at h
  exact Qbz t fs _ _ h f hf
 unfold freeD at hx
 split at hx
 ·cases hx
 ·have := QaR t f.case _ [] (namesD (.mk 2 a s p l lb c cb fs fb) ++ bd) [] (fun x h => .inr h) hc x hx
  exact this.resolve_left (by simp)
theorem QeQ {t : List Place} {d : Dec} {bd : List Str} (h : (scDec (chkI t) d bd none).2 = none) (hk : d.kind = 1) {p : Pat} {e : Exp} {r : List Case} (hc : d.case = .mk p e :: r) : ∀ x ∈ freeD e, x ∈ bd := by
 intro x hx
 cases d with
 | mk k a s q l lb c cb fs fb =>
 simp only [Dec.kind, Dec.case] at hk hc
 subst hk hc
 simp only [scDec, decide_true, cond_true, scVals] at h
 have h2 := Qah t h
 have h1 := Q7Y t h2
 rw [h1] at h2
 unfold freeD at hx
 split at hx
 ·cases hx
 ·have := Q9E t e bd [] bd [] (fun x h => .inr h) h2 x hx
  exact this.resolve_left (by simp)
theorem Q2s (i : Bool) : ∀ a b : List Dec, nodesDecs i (a ++ b) = nodesDecs i a ++ nodesDecs i b
 | [], b => rfl
 | d :: a, b => by simp only [List.cons_append, nodesDecs, Q2s i a b, List.append_assoc]
theorem Q4K : ∀ (a b : List Dec) (n : Int), deepDecs (a ++ b) n = deepDecs b (deepDecs a n)
 | [], b, n => rfl
 | .mk _ _ _ _ l _ c _ f _ :: a, b, n => by simp only [List.cons_append, deepDecs, Q4K a b]
theorem Q72 : ∀ (a : List Dec) (n m : Int), n ≤ m → deepDecs a n ≤ deepDecs a m
 | [], n, m, h => h
 | .mk _ _ _ _ l _ c _ f _ :: a, n, m, h => by
   simp only [deepDecs]
   refine Q72 a _ _ ?_
   unfold maxI; split <;> split <;> omega
theorem QgY {l : List TNode} {D : Int} (h1 : countN l ≤ 8192) (h2 : D ≤ 100) (h3 : ∀ n ∈ l, n.bad.kind = 0) : rightN l D = .zero := by
 unfold rightN
 rw [decide_eq_false (by omega), cond_false, decide_eq_false (by omega), cond_false]
 induction l with
 | nil => rfl
 | cons n l ih =>
   rw [firstBad, decide_eq_true (h3 n List.mem_cons_self), cond_true]
   refine ih ?_ (fun m hm => h3 m (List.mem_cons_of_mem _ hm))
   have : countN l ≤ countN (n :: l) := by
    unfold countN
    exact ((List.sublist_cons_self n l).filter _).length_le
   omega
theorem Qdj {l : List TNode} {D : Int} (h : rightN l D = .zero) : countN l ≤ 8192 ∧ D ≤ 100 := by
 unfold rightN at h
 cases h1 : decide (countN l > 8192) with
 | true => rw [h1, cond_true] at h; cases h
 | false =>
   rw [h1, cond_false] at h
   cases h2 : decide (D > 100) with
   | true => rw [h2, cond_true] at h; cases h
   | false =>
     have := of_decide_eq_false h1
     have := of_decide_eq_false h2
     omega
theorem Q6I {a b c : List Dec} (h : rightN (nodesDecs false (a ++ b ++ c)) (deepDecs (a ++ b ++ c) 0) = .zero) : rightN (nodesDecs false b) (deepDecs b 0) = .zero := by
 obtain ⟨h1, h2⟩ := Qdj h
 have h3 := Q2W _ (Q8P h)
 rw [Q2s, Q2s] at h1 h3
 rw [Q4K, Q4K] at h2
 refine QgY ?_ ?_ fun n hn => h3 n (List.mem_append_left _ (List.mem_append_right _ hn))
 ·unfold countN at h1 ⊢
  simp only [List.filter_append, List.length_append] at h1
  omega
 ·have h4 := Q72 b 0 (deepDecs a 0) (Q1s a 0).1
  have h5 := (Q1s c (deepDecs b (deepDecs a 0))).1
  omega
theorem Qdb : ∀ (a b : List Dec) (t : List Place), (ofD (a ++ b) t).2 = .zero → (ofD a t).2 = .zero
 | [], _, _, _ => rfl
 | d :: a, b, t, h => by
   simp only [List.cons_append, ofD] at h ⊢
   split
   ·next hz => rw [if_pos hz] at h; simp only at h; rw [h] at hz; exact absurd rfl hz
   ·next hz => rw [if_neg hz] at h; exact Qdb a b _ h
theorem Q8z {P : List Dec} {t : List Place} {bd : List Str} {st : Option TBad} (h : (chkDecs P t bd st).2 = none) : st = none := by
 cases st with
 | none => rfl
 | some b => rw [Q4D] at h; cases h
theorem Q7D : ∀ (a b : List Dec) (t : List Place) (bd : List Str) (st : Option TBad), (chkDecs (a ++ b) t bd st).2 = none → (chkDecs a t bd st).2 = none
 | [], _, _, _, _, h => Q8z h
 | d :: a, b, t, bd, st, h => by
   simp only [List.cons_append, chkDecs] at h ⊢
   exact Q7D a b _ _ _ h
theorem Q5N {P : List Dec} (h : (checkD P).kind = 0) : rightN (nodesDecs false P) (deepDecs P 0) = .zero ∧ (ofD P startD).2 = .zero ∧ (chkDecs P startD [] none).2 = none := by
 unfold checkD at h
 by_cases h1 : rightN (nodesDecs false P) (deepDecs P 0) = .zero
 ·rw [if_neg (by simpa using h1)] at h
  by_cases h2 : (ofD P startD).2 = .zero
  ·rw [if_neg (by simpa using h2)] at h
   refine ⟨h1, h2, ?_⟩
   have hr : RN (nodesDecs false P) := Q2e h1
   have e := Q9D P startD startD [] [] rfl Qe4 (fun d hd => Qgy (hr.decs d hd)) (fun _ => .rfl) hr
   rw [e] at h ⊢
   unfold opt at h ⊢
   by_cases hz : (chkR P startD []).kind = 0
   ·rw [decide_eq_true hz]; rfl
   ·rw [decide_eq_false hz] at h; exact absurd h hz
  ·rw [if_pos h2] at h; exact absurd (Qda P startD h) h2
 ·rw [if_pos h1] at h; exact absurd (Qf5.1 h) h1
theorem QeO {a b : List Dec} (h : (checkD (a ++ b)).kind = 0) : (checkD a).kind = 0 := by
 obtain ⟨h1, h2, h3⟩ := Q5N h
 have r1 : rightN (nodesDecs false a) (deepDecs a 0) = .zero := Q6I (a := []) (c := b) (by simpa using h1)
 unfold checkD
 rw [if_neg (by simpa using r1), if_neg (by simpa using Qdb a b _ h2), Q7D a b _ _ _ h3]
 rfl
end Go.Proofs.Ytinphnakebeloaa