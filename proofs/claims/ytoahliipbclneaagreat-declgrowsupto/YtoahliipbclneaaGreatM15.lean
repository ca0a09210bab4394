/- A part of the proof: PGrow, PGrow2, RDec11, LDeclGrows. -/
import Derived.Test.YtoahliipbclneaaGreatM8
import Derived.Test.YtoahliipbclneaaGreatM12
import Derived.Test.YtoahliipbclneaaGreatM14
set_option linter.unusedVariables false
set_option linter.unusedSimpArgs false
namespace Go.Proofs.YtoahliipbclneaaGreat
open Go Go.Am
set_option linter.unusedVariables false
theorem QfA : ∀ (P Q : List Dec) (t : List Place), (ofD P t).2.kind = 0 → ofD (P ++ Q) t = ofD Q (ofD P t).1
 | [], Q, t, _ => rfl
 | d :: P, Q, t, h => by
   simp only [ofD] at h
   by_cases hz : (addD t d).2.kind = 0
   ·rw [if_neg (by simpa using hz)] at h
    simp only [List.cons_append, ofD]
    rw [if_neg (by simpa using hz), if_neg (by simpa using hz)]
    exact QfA P Q _ h
   ·rw [if_pos hz] at h; exact absurd h hz
def newD (res : Ty) (vars : Int) (data : Str) (of_ : Int) : List Con → Int → List Place
 | [], _ => []
 | c :: l, tag => conPlace res vars data tag of_ c :: newD res vars data of_ l (tag + 1)
def Fresh : List Con → List Str → Prop
 | [], _ => True
 | c :: l, met => c.name ∉ met ∧ Fresh l (met ++ [c.name])
theorem conBad0 {k : Int} {g : Str → Option Int} {vars tag : Int} {met : List Str} {c : Con} (h : (conBad k g vars tag met c).1 = 0) : c.name ∉ met ∧ (c.has = true → (wrongD g vars c.arg).1 = 0) := by
 unfold conBad at h
 by_cases h1 : c.name ∈ met
 ·rw [if_pos h1] at h; cases h
 ·refine ⟨h1, fun hh => ?_⟩
  rw [if_neg h1] at h
  cases hx : (decide (k = 4) && decide (tag > 1023)) with
  | true => rw [hx, cond_true] at h; cases h
  | false =>
    rw [hx, cond_false, hh, cond_true] at h
    by_cases hw : (wrongD g vars c.arg).1 = 0
    ·exact hw
    ·rw [if_pos hw] at h; exact absurd h hw
theorem Q8Z (k : Int) (g : Str → Option Int) (res : Ty) (vars : Int) (data : Str) (of_ : Int) : ∀ (l : List Con) (met : List Str) (tag : Int) (out : List Place), (consD k g res vars data of_ l met tag out).2.kind = 0 →
  consD k g res vars data of_ l met tag out = (out ++ newD res vars data of_ l tag, .zero) ∧ Fresh l met ∧ ∀ c ∈ l, c.has = true → (wrongD g vars c.arg).1 = 0
 | [], met, tag, out, h => ⟨by simp only [consD, newD, List.append_nil], trivial, by simp⟩
 | c :: l, met, tag, out, h => by
   simp only [consD] at h ⊢
   by_cases hz : (conBad k g vars tag met c).1 = 0
   ·rw [if_neg (by simpa using hz)] at h ⊢
    obtain ⟨h1, h2, h3⟩ := Q8Z k g res vars data of_ l _ _ _ h
    obtain ⟨h4, h5⟩ := conBad0 hz
    refine ⟨by rw [h1]; simp only [newD, List.append_assoc, List.singleton_append], ⟨h4, h2⟩, fun x hx => ?_⟩
    rcases List.mem_cons.1 hx with rfl | hx
    ·exact h5
    ·exact h3 x hx
   ·rw [if_pos hz] at h; exact absurd h hz
theorem Q7c (k : Int) (g : Str → Option Int) (res : Ty) (vars : Int) (data : Str) (of_ : Int) : ∀ (l : List Con) (met : List Str) (tag : Int) (out : List Place), (consD k g res vars data of_ l met tag out).2.kind ≠ 0 → (consD k g res vars data of_ l met tag out).1 = []
 | [], met, tag, out, h => absurd rfl h
 | c :: l, met, tag, out, h => by
   simp only [consD] at h ⊢
   by_cases hz : (conBad k g vars tag met c).1 = 0
   ·rw [if_neg (by simpa using hz)] at h ⊢; exact Q7c k g res vars data of_ l _ _ _ h
   ·rw [if_pos hz]
theorem QhN (t : List Place) (d : Dec) (h : (addD t d).2.kind ≠ 0) : (addD t d).1 = [] := by
 unfold addD at h ⊢
 cases h3 : decide (d.kind = 3) with
 | true =>
   rw [h3, cond_true] at h
   simp only [cond_true]
   cases hk : (knownD t d.name).isSome with
   | true => rfl
   | false =>
     rw [hk, cond_false] at h
     exact Q7c _ _ _ _ _ _ _ _ _ _ h
 | false =>
   rw [h3, cond_false] at h
   simp only [cond_false]
   cases h4 : decide (d.kind = 4) with
   | true =>
     rw [h4, cond_true] at h
     exact Q7c _ _ _ _ _ _ _ _ _ _ h
   | false => rw [h4, cond_false] at h; exact absurd rfl h
inductive Adds (t : List Place) (d : Dec) : Prop where
 | data (h3 : d.kind = 3) (hk : knownD t d.name = none) (hu : (addD t d).1 = t ++ newD (headD d).1 d.params d.name d.cons.length d.cons 0) (hf : Fresh d.cons (t.map Place.name)) (hw : ∀ c ∈ d.cons, c.has = true → (wrongD (upd (knownD t) d.name d.params) d.params c.arg).1 = 0)
 | exn (h4 : d.kind = 4) (hu : (addD t d).1 = t ++ newD (ofTy sExn []) 0 sExn 0 d.cons (exns t : Nat)) (hf : Fresh d.cons (t.map Place.name)) (hw : ∀ c ∈ d.cons, c.has = true → (wrongD (knownD t) 0 c.arg).1 = 0)
 | other (h3 : d.kind ≠ 3) (h4 : d.kind ≠ 4) (hu : (addD t d).1 = t)
theorem Q7Y {t : List Place} {d : Dec} (h : (addD t d).2.kind = 0) : (addD t d).2 = .zero ∧ Adds t d := by
 by_cases h3 : d.kind = 3
 ·have e : addD t d = bif (knownD t d.name).isSome then ([], ⟨9, d.at_, d.name⟩) else consD 3 (upd (knownD t) d.name d.params) (headD d).1 (headD d).2 d.name d.cons.length d.cons (t.map Place.name) 0 t := by simp only [addD, h3, decide_true, cond_true]
  rw [e] at h
  cases hk : (knownD t d.name).isSome with
  | true => rw [hk, cond_true] at h; cases h
  | false =>
    rw [hk, cond_false] at h e
    obtain ⟨h1, h2, h5⟩ := Q8Z _ _ _ _ _ _ _ _ _ _ h
    have hh : (headD d).2 = d.params := by simp [headD, h3]
    rw [hh] at h1 h5 e
    exact ⟨by rw [e, h1], .data h3 (by simpa using hk) (by rw [e, h1]) h2 h5⟩
 ·by_cases h4 : d.kind = 4
  ·have hh : headD d = (ofTy sExn [], 0) := by simp [headD, h4]
   have e : addD t d = consD 4 (knownD t) (ofTy sExn []) 0 sExn 0 d.cons (t.map Place.name) (exns t : Nat) t := by simp only [addD, h4, Int.reduceEq, decide_false, decide_true, cond_true, cond_false, hh]
   rw [e] at h
   obtain ⟨h1, h2, h5⟩ := Q8Z _ _ _ _ _ _ _ _ _ _ h
   exact ⟨by rw [e, h1], .exn h4 (by rw [e, h1]) h2 h5⟩
  ·have e : addD t d = (t, .zero) := by simp only [addD, decide_eq_false h3, decide_eq_false h4, cond_false]
   exact ⟨by rw [e], .other h3 h4 (by rw [e])⟩
theorem QdR (res : Ty) (vars : Int) (data : Str) (of_ : Int) : ∀ (l : List Con) (tag : Int), (newD res vars data of_ l tag).length = l.length
 | [], _ => rfl
 | c :: l, tag => by simp only [newD, List.length_cons, QdR res vars data of_ l]
def cN (c : Con) : Con := ⟨c.name, 0, c.has, bif c.has then ownTy c.arg else .zero⟩
theorem Q6b (res : Ty) (vars : Int) (data : Str) (tag of_ : Int) (c : Con) : conD (conPlace res vars data tag of_ c) = cN c := by
 unfold conD conPlace cN
 cases hh : c.has with
 | true => simp [fnTy, ofTy, Ty.args]
 | false => rfl
theorem QdA (res : Ty) (vars : Int) (nm : Str) (hn : nm ≠ sExn) (of_ : Int) (P : List Dec) : ∀ (l : List Con) (tag : Int) (cs : List Con), (newD res vars nm of_ l tag).foldl stepD (P ++ [dataDec nm vars cs]) = P ++ [dataDec nm vars (cs ++ l.map cN)]
 | [], _, cs => by simp only [newD, List.foldl_nil, List.map_nil, List.append_nil]
 | c :: l, tag, cs => by
   have hj : joins (conPlace res vars nm tag of_ c) (dataDec nm vars cs) = true := by
    simp only [joins, conPlace, dataDec, Dec.kind, Dec.name, hn, decide_false, decide_true, Bool.not_false, Bool.and_self]
   have ha : addCon (dataDec nm vars cs) (cN c) = dataDec nm vars (cs ++ [cN c]) := rfl
   simp only [newD, List.foldl_cons]
   rw [Q1C, hj, cond_true, Q6b, ha, QdA res vars nm hn of_ P l (tag + 1) (cs ++ [cN c])]
   simp only [List.map_cons, List.append_assoc, List.singleton_append]
theorem Qa2 (S : Str → Prop) : ∀ (t : List Place) (P : List Dec), (∀ e ∈ P, e.kind = 3 → S e.name) → (∀ p ∈ t, S p.data) → ∀ e ∈ t.foldl stepD P, e.kind = 3 → S e.name
 | [], P, hP, _ => hP
 | p :: t, P, hP, ht => by
   rw [List.foldl_cons]
   refine Qa2 S t _ (fun e he hk => ?_) fun q hq => ht q (List.mem_cons_of_mem _ hq)
   have hmk : e = mkD p → S e.name := fun h => by
    subst h
    unfold mkD at hk ⊢
    cases hc : decide (p.data = sExn) with
    | true => rw [hc, cond_true] at hk; cases hk
    | false => exact ht p List.mem_cons_self
   rcases List.eq_nil_or_concat P with rfl | ⟨q, d, rfl⟩
   ·simp only [Q5o, List.mem_singleton] at he; exact hmk he
   ·rw [List.concat_eq_append] at *
    rw [Q1C] at he
    cases hj : joins p d with
    | true =>
      rw [hj, cond_true, List.mem_append, List.mem_singleton] at he
      rcases he with he | rfl
      ·exact hP e (List.mem_append_left _ he) hk
      ·exact hP d (by simp) hk
    | false =>
      rw [hj, cond_false, List.mem_append, List.mem_singleton] at he
      rcases he with he | he
      ·exact hP e he hk
      ·exact hmk he
theorem QaE {P : List Dec} {p : Place} (h : ∀ e ∈ P, joins p e = false) : stepD P p = P ++ [mkD p] := by
 rcases List.eq_nil_or_concat P with rfl | ⟨q, d, rfl⟩
 ·rfl
 ·rw [List.concat_eq_append] at *
  rw [Q1C, h d (by simp), cond_false]
theorem Qg1 {t : List Place} {nm : Str} (h : knownD t nm = none) : givenR nm = false ∧ ∀ p ∈ t, p.data ≠ nm := by
 rw [Q5j] at h
 cases hg : givenR nm with
 | true => rw [hg] at h; cases h
 | false =>
   rw [hg, cond_false] at h
   refine ⟨rfl, fun p hp e => ?_⟩
   have : ∀ l : List Place, p ∈ l → varsOf nm (dv l) ≠ none := fun l => by
    induction l with
    | nil => intro hh; cases hh
    | cons q l ih =>
      intro hh
      simp only [dv, List.map_cons, varsOf]
      by_cases hq : q.data = nm
      ·rw [if_pos hq]; simp
      ·rw [if_neg hq]
       rcases List.mem_cons.1 hh with rfl | hh
       ·exact absurd e hq
       ·exact ih hh
   exact this t hp h
theorem Qh7 {nm : Str} (h : givenR nm = false) : nm ≠ sExn := by
 intro e; subst e; revert h; decide
theorem Qhm {d e : Dec} (h : nmDec false d = nmDec false e) : okD d = okD e := by
 have hs : nmDecs false [d] = nmDecs false [e] := by simp only [nmDecs, h]
 have h1 : deepDecs [d] 0 = deepDecs [e] 0 := by rw [← Q3n false [d], hs, Q3n]
 have h2 : (nodesDecs false [d]).map (nmNode false) = (nodesDecs false [e]).map (nmNode false) := by rw [← Q2O, hs, Q2O]
 have h3 : countN (nodesDecs false [d]) = countN (nodesDecs false [e]) := by rw [← QbS false, h2, QbS]
 have h4 : (firstBad (nodesDecs false [d])).kind = (firstBad (nodesDecs false [e])).kind := by
  have h5 := congrArg firstBad h2
  rw [Q5z, Q5z] at h5
  simp only [cond_false] at h5
  have h6 : (firstBad (nodesDecs false [d])).bare.kind = (firstBad (nodesDecs false [e])).bare.kind := by rw [h5]
  exact h6
 unfold okD rightN
 rw [h1, h3]
 cases decide (countN (nodesDecs false [e]) > 8192) <;> cases decide (deepDecs [e] 0 > 100) <;> simp [h4]
theorem Qli (t : Ty) : nmTy (ownTy t) = nmTy t := by rw [Qaj, Qbi]
theorem QiW {c : Con} (h : wrongConB c = 0) : nmCon false (cN c) = nmCon false c := by
 unfold cN nmCon
 cases hh : c.has with
 | true => simp only [cond_true, Qli]; rfl
 | false =>
   have : nmTy c.arg = nmTy .zero := by
    unfold wrongConB at h
    rw [hh] at h
    cases hc : c.arg with
    | mk k n s l b =>
      rw [hc] at h
      simp only [Ty.kind, Ty.n, Ty.name, Ty.args, Bool.not_false, Bool.true_and] at h
      have hx : k = 0 ∧ n = 0 ∧ s = [] ∧ l = [] := by
       by_cases h1 : k = 0
       ·by_cases h2 : n = 0
        ·by_cases h3 : s = []
         ·by_cases h4 : ((l.length : Int) > 0)
          ·have h4' : 0 < l.length := by omega
           simp [h1, h2, h3, h4'] at h
          ·exact ⟨h1, h2, h3, List.eq_nil_of_length_eq_zero (by omega)⟩
         ·simp [h1, h2, h3] at h
        ·simp [h1, h2] at h
       ·simp [h1] at h
      obtain ⟨rfl, rfl, rfl, rfl⟩ := hx
      rfl
   simp only [cond_false, this]; rfl
theorem Qhl : ∀ {l : List Con}, (∀ c ∈ l, wrongConB c = 0) → nmCons false (l.map cN) = nmCons false l
 | [], _ => rfl
 | c :: l, h => by simp only [List.map_cons, nmCons, QiW (h c List.mem_cons_self), Qhl fun x hx => h x (List.mem_cons_of_mem _ hx)]
theorem Q7b : ∀ {l : List Con} {c : Con}, c ∈ l → .con c ∈ nodesCons l
 | x :: l, c, h => by
   simp only [nodesCons, List.mem_append]
   rcases List.mem_cons.1 h with rfl | h
   ·left; simp only [nodesCon]; exact List.mem_cons_self
   ·exact .inr (Q7b h)
theorem Qe1 {d : Dec} (h : okD d = true) : ∀ c ∈ d.cons, wrongConB c = 0 := fun c hc => by
 have hr := Q7G h
 cases d with
 | mk k a s p l lb cs cb f fb =>
   simp only [nodesDec] at hr
   exact hr.t.r.r _ (Q7b hc)
theorem Q7H {d : Dec} (h : okD d = true) : DecIs d.kind d.name d.params d.cons.length d.case.length d.funs.length false := by
 have hr := Q7G h
 refine Qdo (inn := false) ?_
 cases d with
 | mk k a s p l lb cs cb f fb => simp only [nodesDec] at hr; exact hr _ List.mem_cons_self
theorem Qiu {d : Dec} (h : okD d = true) (h3 : d.kind = 3) : okD (dataDec d.name d.params (d.cons.map cN)) = true := by
 have D := Q7H h
 have hc := Qe1 h
 rw [← h]
 refine Qhm ?_
 have h1 := len0 (D.data h3).1
 have h2 := len0 (D.data h3).2.1
 cases d with
 | mk k a s p l lb cs cb f fb =>
   simp only [Dec.case, Dec.funs, Dec.kind, Dec.cons] at h1 h2 h3 hc
   subst h1 h2 h3
   simp only [dataDec, Dec.name, Dec.params, Dec.cons, nmDec, Qhl hc, nmCases, nmFuns, nmAt, cond_false]
theorem QjI {d : Dec} {c : Con} (h : okD d = true) (h4 : d.kind = 4) (hl : d.cons = [c]) : okD (exnDec (cN c)) = true := by
 have D := Q7H h
 have hc := Qe1 h
 rw [← h]
 refine Qhm ?_
 have h1 := len0 (D.exn h4).1
 have h2 := len0 (D.exn h4).2.1
 have hb := D.bare (by omega)
 cases d with
 | mk k a s p l lb cs cb f fb =>
   simp only [Dec.case, Dec.funs, Dec.kind, Dec.cons, Dec.name, Dec.params] at h1 h2 h4 hc hl hb
   obtain ⟨hb1, hb2⟩ := hb
   subst h1 h2 h4 hl hb1 hb2
   have hx := QiW (hc c (by simp))
   simp only [exnDec, nmDec, nmCons, hx, nmCases, nmFuns, nmAt, cond_false]
theorem Qbj : ∀ t : Ty, preTy (ownTy t) = (preTy t).map ownTy
 | .mk k n s l b => by simp only [ownTy, preTy, pre_owns l, List.map_cons]
where
 pre_owns : ∀ l : List Ty, preTys (ownTys l) = (preTys l).map ownTy
 | [] => rfl
 | t :: l => by simp only [ownTys, preTys, Qbj t, pre_owns l, List.map_append]
structure Like (d e : Dec) : Prop where
 kind : e.kind = d.kind
 name : e.name = d.name
 params : e.params = d.params
 cons : e.cons = d.cons.map cN
theorem Qf9 {t : List Place} {d e : Dec} (h : Like d e) (u : Ty) : wrongR t e (ownTy u) = wrongR t d u := by
 cases u with
 | mk k n s l b => simp only [wrongR, wrongR1, h.kind, h.name, h.params, ownTy, Ty.kind, Ty.n, Ty.name, Ty.args, Q6s, List.length_map]; rfl
theorem Q8n {t : List Place} {d e : Dec} (h : Like d e) : ∀ l : List Ty, firstW t e (l.map ownTy) = firstW t d l
 | [] => rfl
 | u :: l => by simp only [List.map_cons, firstW, Qf9 h u, Q8n h l]
theorem Qhs {d e : Dec} (h : Like d e) : resR e = resR d := by simp only [resR, h.kind, h.name, h.params]
theorem Qi7 (a b : Ty) : fnTy (ownTy a) b = fnTy a b := by simp only [fnTy, ofTy, List.map_cons, List.map_nil, (Qcn a).1]
theorem QeS {t : List Place} {d e : Dec} (h : Like d e) (i : Nat) (c : Con) : placeR t e i (cN c) = placeR t d i c := by
 unfold placeR
 rw [Qhs h, h.kind, h.name, h.params, h.cons, List.length_map]
 unfold cN
 cases hh : c.has with
 | true => simp only [cond_true, Qi7]
 | false => rfl
theorem Qdk {t : List Place} {d e : Dec} (h : Like d e) (out : List Place) (c : Con) : conBadR t e out (cN c) = conBadR t d out c := by
 unfold conBadR
 rw [h.kind]
 unfold cN
 cases hh : c.has with
 | true => simp only [cond_true, Qbj, Q8n h]
 | false => rfl
theorem Q9I {t : List Place} {d e : Dec} (h : Like d e) : ∀ (l : List Con) (i : Nat) (out : List Place), (consR t d l i out).2.kind = 0 → consR t e (l.map cN) i out = consR t d l i out
 | [], _, _, _ => rfl
 | c :: l, i, out, hz => by
   simp only [List.map_cons, consR, Qdk h, QeS h] at hz ⊢
   by_cases hb : (conBadR t d out c).1 = 0
   ·rw [if_neg (by simpa using hb)] at hz
    rw [if_neg (by simpa using hb), if_neg (by simpa using hb)]
    exact Q9I h l _ _ hz
   ·rw [if_pos hb] at hz; exact absurd hz hb
theorem QgE {t : List Place} {d e : Dec} (h : Like d e) (hz : (addR t d).2.kind = 0) : addR t e = addR t d := by
 unfold addR at hz ⊢
 rw [h.kind, h.name, h.cons]
 cases hx : (!decide (d.kind = 3) && !decide (d.kind = 4)) with
 | true => rfl
 | false =>
   rw [hx, cond_false] at hz
   simp only [cond_false]
   cases hy : (decide (d.kind = 3) && ((dtR t d.name).2 || givenR d.name)) with
   | true => rw [hy, cond_true] at hz; cases hz
   | false =>
     rw [hy, cond_false] at hz
     simp only [cond_false]
     exact Q9I h _ _ _ hz
end Go.Proofs.YtoahliipbclneaaGreat
namespace Go.Proofs.YtoahliipbclneaaGreat
open Go Go.Am
set_option linter.unusedVariables false
theorem TabEq.refl (t : List Place) : TabEq t t := rfl
theorem Q6u {t : List Place} (h : rightTD t = true) : 6 ≤ t.length ∧ (∀ d ∈ decsD t, okD d = true) ∧ (ofD (decsD t) startD).2.kind = 0 ∧ TabEq t (ofD (decsD t) startD).1 := by
 simp only [rightTD, Bool.and_eq_true, Bool.not_eq_true', decide_eq_false_iff_not, decide_eq_true_eq, List.all_eq_true] at h
 exact ⟨by omega, h.2.1, h.2.2.1, (Q5g _ _).1 h.2.2.2⟩
theorem Qgb {t : List Place} (h1 : 6 ≤ t.length) (h2 : ∀ d ∈ decsD t, okD d = true) (h3 : (ofD (decsD t) startD).2.kind = 0) (h4 : TabEq t (ofD (decsD t) startD).1) : rightTD t = true := by
 simp only [rightTD, Bool.and_eq_true, Bool.not_eq_true', decide_eq_false_iff_not, decide_eq_true_eq, List.all_eq_true]
 exact ⟨by omega, h2, h3, (Q5g _ _).2 h4⟩
theorem QbU {t u : List Place} (h : 6 ≤ t.length) : decsD (t ++ u) = u.foldl stepD (decsD t) := by
 unfold decsD
 rw [List.drop_append, show 6 - t.length = 0 by omega, List.drop_zero, List.foldl_append]
theorem QjR {t : List Place} (h : rightTD t = true) : (∀ p ∈ t, 0 ≤ p.vars) ∧ ∀ p ∈ (ofD (decsD t) startD).1, 0 ≤ p.vars := by
 obtain ⟨-, h2, -, h4⟩ := Q6u h
 obtain ⟨-, -, q3⟩ := QiX (decsD t) startD startD rfl QeZ fun d hd => Q90 (Q7G (h2 d hd))
 refine ⟨fun p hp => ?_, q3⟩
 have hm : ownP p ∈ (ofD (decsD t) startD).1.map ownP := by rw [← h4]; exact List.mem_map_of_mem hp
 obtain ⟨q, hq, e⟩ := List.mem_map.1 hm
 have h1 : (ownP p).vars = p.vars := rfl
 rw [← h1, ← e]
 exact q3 q hq
theorem Qfq {t u : List Place} {d e : Dec} (h : rightTD t = true) (hd : okD d = true) (hz : (addD t d).2.kind = 0) (hu : (addD t d).1 = t ++ u) (he : Like d e) (heo : okD e = true) (hdec : decsD (t ++ u) = decsD t ++ [e]) : rightTD (t ++ u) = true := by
 obtain ⟨h1, h2, h3, h4⟩ := Q6u h
 obtain ⟨v1, v2⟩ := QjR h
 obtain ⟨a1, a2, -⟩ := Qdh (TabEq.refl t) v1 d (Q90 (Q7G hd))
 obtain ⟨b1, b2, -⟩ := Qdh h4.symm v2 e (Q90 (Q7G heo))
 have hl := QgE he (t := t) (by rw [← a1]; exact hz)
 rw [hl] at b1 b2
 have hz2 : (addD (ofD (decsD t) startD).1 e).2.kind = 0 := by rw [b1, ← a1]; exact hz
 have hof : ofD (decsD t ++ [e]) startD = ((addD (ofD (decsD t) startD).1 e).1, .zero) := by
  rw [QfA _ _ _ h3]
  simp only [ofD]
  rw [if_neg (by simpa using hz2)]
 refine Qgb (by simp only [List.length_append]; omega) (fun x hx => ?_) ?_ ?_
 ·rw [hdec] at hx
  rcases List.mem_append.1 hx with hx | hx
  ·exact h2 x hx
  ·simp only [List.mem_singleton] at hx; subst hx; exact heo
 ·rw [hdec, hof]; rfl
 ·rw [hdec, hof, ← hu]
  exact a2.trans b2.symm
theorem Qg0 {t : List Place} {d : Dec} (h : rightTD t = true) (hd : okD d = true) (hz : (addD t d).2.kind = 0) : rightTD (addD t d).1 = true := by
 obtain ⟨h1, h2, h3, h4⟩ := Q6u h
 have D := Q7H hd
 cases (Q7Y hz).2 with
 | other k3 k4 hu => rw [hu]; exact h
 | data k3 hk hu hf hw =>
   obtain ⟨hg, hn⟩ := Qg1 hk
   have hex := Qh7 hg
   rw [hu]
   cases hc : d.cons with
   | nil => have := (D.data k3).2.2.2.2.2.1; rw [hc] at this; simp at this
   | cons c l =>
     rw [hc] at hu
     refine Qfq h hd hz hu (e := dataDec d.name d.params (d.cons.map cN)) ⟨by rw [k3]; rfl, rfl, rfl, rfl⟩ (Qiu hd k3) ?_
     have hj : ∀ e ∈ decsD t, joins (conPlace (headD d).1 d.params d.name 0 ((c :: l).length : Nat) c) e = false := fun e he => by
      cases hkk : decide (e.kind = 3) with
      | false => simp only [joins, hkk, Bool.and_false, Bool.false_and]
      | true =>
        have := Qa2 (fun s => s ≠ d.name) (t.drop 6) [] (by simp) (fun p hp => hn p (List.mem_of_mem_drop hp)) e he (by simpa using hkk)
        simp only [joins, conPlace, this, decide_false, Bool.and_false]
     have hmk : mkD (conPlace (headD d).1 d.params d.name 0 ((c :: l).length : Nat) c) = dataDec d.name d.params [cN c] := by
      unfold mkD
      rw [Q6b]
      have : decide ((conPlace (headD d).1 d.params d.name 0 ((c :: l).length : Nat) c).data = sExn) = false := decide_eq_false hex
      rw [this]; rfl
     rw [QbU h1]
     simp only [newD, List.foldl_cons]
     rw [QaE hj, hmk, QdA _ _ _ hex, hc]
     simp only [List.map_cons, List.singleton_append]
 | exn k4 hu hf hw =>
   rw [hu]
   have hlen := (D.exn k4).2.2
   cases hc : d.cons with
   | nil => rw [hc] at hlen; simp at hlen
   | cons c l =>
     have : l = [] := by rw [hc] at hlen; simp only [List.length_cons] at hlen; exact List.eq_nil_of_length_eq_zero (by omega)
     subst this
     rw [hc] at hu
     have hb := D.bare (by omega)
     refine Qfq h hd hz hu (e := exnDec (cN c)) ⟨by rw [k4]; rfl, by rw [hb.2]; rfl, by rw [hb.1]; rfl, by rw [hc]; rfl⟩ (QjI hd k4 hc) ?_
     rw [QbU h1]
     simp only [newD, List.foldl_cons, List.foldl_nil]
     rw [QaE fun e he => by simp [joins, conPlace]]
     have hmk : mkD (conPlace (ofTy sExn []) 0 sExn (exns t : Nat) 0 c) = exnDec (cN c) := by
      unfold mkD
      rw [Q6b]
      have : decide ((conPlace (ofTy sExn []) 0 sExn (exns t : Nat) 0 c).data = sExn) = true := decide_eq_true rfl
      rw [this]; rfl
     rw [hmk]
theorem Qa0 {nm : Str} {t : List Place} (h : nm ∉ t.map Place.name) : findD nm t = none := by
 have := Q7n nm t
 rw [decide_eq_false h] at this
 cases hf : findD nm t with
 | none => rfl
 | some p => rw [hf] at this; cases this
theorem Qc4 {nm : Str} : ∀ {t : List Place} (u : List Place), findD nm t = none → findD nm (t ++ u) = findD nm u
 | [], u, _ => rfl
 | p :: t, u, h => by
   simp only [findD] at h
   by_cases hp : p.name = nm
   ·rw [if_pos hp] at h; cases h
   ·rw [if_neg hp] at h
    simp only [List.cons_append, findD]
    rw [if_neg hp]; exact Qc4 u h
theorem QdS (res : Ty) (vars : Int) (data : Str) (of_ : Int) : ∀ (l : List Con) (met : List Str) (tag : Int) (i : Nat) (c : Con), Fresh l met → l[i]? = some c → c.name ∉ met ∧ ∃ p, (newD res vars data of_ l tag)[i]? = some p ∧ findD c.name (newD res vars data of_ l tag) = some p ∧ p.has = c.has
 | [], met, tag, i, c, _, h => by simp at h
 | x :: l, met, tag, 0, c, hf, h => by
   simp only [List.getElem?_cons_zero, Option.some.injEq] at h
   subst h
   refine ⟨hf.1, conPlace res vars data tag of_ x, rfl, ?_, rfl⟩
   simp only [newD, findD]
   exact if_pos rfl
 | x :: l, met, tag, i + 1, c, hf, h => by
   obtain ⟨h1, p, h2, h3, h4⟩ := QdS res vars data of_ l _ (tag + 1) i c hf.2 (by simpa using h)
   simp only [List.mem_append, List.mem_singleton, not_or] at h1
   refine ⟨h1.1, p, by simpa only [newD, List.getElem?_cons_succ] using h2, ?_, h4⟩
   simp only [newD, findD]
   exact (if_neg (Ne.symm h1.2)).trans h3
theorem Qh8 {t : List Place} {d : Dec} (hd : okD d = true) (hz : (addD t d).2.kind = 0) : (addD t d).1.length = t.length + d.cons.length ∧ (addD t d).1.take t.length = t ∧
  ∀ i c, d.cons[i]? = some c → findD c.name t = none ∧ ∃ p, (addD t d).1[t.length + i]? = some p ∧ findD c.name (addD t d).1 = some p ∧ p.has = c.has := by
 have D := Q7H hd
 have main : ∀ (res : Ty) (vars : Int) (data : Str) (of_ tag : Int), (addD t d).1 = t ++ newD res vars data of_ d.cons tag → Fresh d.cons (t.map Place.name) → (addD t d).1.length = t.length + d.cons.length ∧ (addD t d).1.take t.length = t ∧
  ∀ i c, d.cons[i]? = some c → findD c.name t = none ∧ ∃ p, (addD t d).1[t.length + i]? = some p ∧ findD c.name (addD t d).1 = some p ∧ p.has = c.has := fun res vars data of_ tag hu hf => by
    rw [hu]
    refine ⟨by rw [List.length_append, QdR], by simp, fun i c hc => ?_⟩
    obtain ⟨h1, p, h2, h3, h4⟩ := QdS res vars data of_ d.cons _ tag i c hf hc
    refine ⟨Qa0 h1, p, ?_, ?_, h4⟩
    ·rw [List.getElem?_append_right (by omega), Nat.add_sub_cancel_left]; exact h2
    ·rw [Qc4 _ (Qa0 h1)]; exact h3
 cases (Q7Y hz).2 with
 | data k3 hk hu hf hw => exact main _ _ _ _ _ hu hf
 | exn k4 hu hf hw => exact main _ _ _ _ _ hu hf
 | other k3 k4 hu =>
   have hc : d.cons = [] := by
    rcases D.kind with k | k | k | k
    ·exact len0 (D.val k).2.2
    ·exact len0 (D.fn k).2.1
    ·exact absurd k k3
    ·exact absurd k k4
   rw [hu, hc]
   exact ⟨rfl, by simp, by simp⟩
end Go.Proofs.YtoahliipbclneaaGreat
namespace Go.Proofs.YtoahliipbclneaaGreat
open Go Go.Am
set_option linter.unusedVariables false
set_option maxRecDepth 4000
section
variable {H : Type}
def GPlace (b : Nat) (p : Place) : Prop := p.ty.size + 1 ≤ b ∧ PlaceOK p
def GPlaces (b : Nat) (l : List Place) : Prop := Place.sizes l ≤ b ∧ ∀ p ∈ l, PlaceOK p
theorem GPlaces.nil : GPlaces 0 [] := ⟨Nat.le_refl _, by simp⟩
theorem GPlaces.cons (m k : Nat) (t : Place) (L : List Place) (h : GPlace m t) (g : GPlaces k L) : GPlaces (m + k) (t :: L) := by
 refine ⟨by have := h.1; have := g.1; simp only [Place.sizes]; omega, fun p hp => ?_⟩
 rcases List.mem_cons.1 hp with rfl | hp
 ·exact h.2
 ·exact g.2 p hp
theorem QiD : (C.ti Q0m).k = .struct [(0, Q1), (1, Q4)] := by kernel_rfl
theorem QgT : ∀ (n : Nat) (d : DataW H) l, conv C.ti n Q6 d = some l → Rows.uptoBulk d < 2^30 → ∃ t : Place, l = t.cells ∧ GPlace (Rows.uptoBulk d) t
 | 0, d, l, h, _ => by simp [conv] at h
 | n + 1, d, l, h, hb => by
   obtain ⟨parts, ls, rfl, hf, rfl⟩ := QN Qgv h
   rcases parts with _ | ⟨d1, _ | ⟨d2, _ | ⟨d3, _ | ⟨d4, _ | ⟨d5, _ | ⟨d6, _ | _⟩⟩⟩⟩⟩⟩ <;> rcases ls with _ | ⟨l1, _ | ⟨l2, _ | ⟨l3, _ | ⟨l4, _ | ⟨l5, _ | ⟨l6, _ | _⟩⟩⟩⟩⟩⟩ <;> simp only [Fields, and_false] at hf
   obtain ⟨c1, c2, c3, c4, c5, c6, -⟩ := hf
   simp only [Rows.uptoBulk, Rows.uptoBulkAll] at hb ⊢
   obtain ⟨nm, rfl, rfl⟩ := Q1w Qw c1
   obtain ⟨data, rfl, rfl⟩ := Q1w Qw c2
   obtain ⟨tag, rfl, rfl, w3⟩ := QT Q02 c3
   obtain ⟨of_, rfl, rfl, w4⟩ := QT Q02 c4
   obtain ⟨has, rfl, rfl⟩ := QbR Qdf c5
   simp only [Rows.uptoBulk] at hb ⊢
   cases n with
   | zero => simp [conv] at c6
   | succ n =>
     obtain ⟨parts, ls, rfl, hf, rfl⟩ := QN QiD c6
     rcases parts with _ | ⟨e1, _ | ⟨e2, _ | _⟩⟩ <;> rcases ls with _ | ⟨m1, _ | ⟨m2, _ | _⟩⟩ <;> simp only [Fields, and_false] at hf
     obtain ⟨c7, c8, -⟩ := hf
     simp only [Rows.uptoBulk, Rows.uptoBulkAll] at hb ⊢
     obtain ⟨vars, rfl, rfl, w7⟩ := QT Q02 c7
     simp only [Rows.uptoBulk] at hb ⊢
     obtain ⟨t, rfl, ht⟩ := Qdp n e2 m2 c8 (by omega)
     exact ⟨⟨nm, data, tag, of_, has, vars, t⟩, by simp [Place.cells], by have := ht.1; simp only []; omega, by simp only []; omega, by simp only []; omega, ht.2 0⟩
theorem QfS (n : Nat) (d : DataW H) (l : List AV) (h : conv C.ti n Qz d = some l) (hb : Rows.uptoBulk d < 2^30) : ∃ L b, l = [encS b (L.map Place.enc)] ∧ GPlaces (Rows.uptoBulk d) L := by
 cases n with
 | zero => simp [conv] at h
 | succ n =>
   obtain ⟨L, b, k, h1, h2, h3⟩ := Q0i Q73 Q8e GPlaces.nil GPlaces.cons (fun d l h hb => QgT n d l h hb) d l h hb
   exact ⟨L, b, h1, by have := h2.1; omega, h2.2⟩
end
end Go.Proofs.YtoahliipbclneaaGreat
namespace Go.Proofs.YtoahliipbclneaaGreat
open Go Go.Am
set_option linter.unusedVariables false
set_option maxRecDepth 4000
theorem Qh0 (p : Place) : eqPl p p = true := (Qdw p p).2 rfl
theorem Qcd : ∀ {t : Ty}, NamesTy t → NamesTy (ownTy t) := fun {t} h n hn => by
 rw [ZK, Qbj, List.map_map] at hn
 obtain ⟨u, hu, rfl⟩ := List.mem_map.1 hn
 have := h.pre u hu
 cases u; exact this
theorem Q6o {k n : Int} {s : Str} {l : List Ty} {b : Bool} (hs : s.length < 2^40) (hl : ∀ t ∈ l, NamesTy t) : NamesTy (.mk k n s l b) := by
 intro x hx
 simp only [nodesTy, List.mem_cons] at hx
 rcases hx with rfl | hx
 ·exact hs
 ·rw [Q4H] at hx
  obtain ⟨u, hu, rfl⟩ := List.mem_map.1 hx
  have : ∀ l : List Ty, (∀ t ∈ l, NamesTy t) → u ∈ preTys l → u.name.length < 2^40 := fun l => by
   induction l with
   | nil => intro _ hh; cases hh
   | cons t l ih =>
     intro hh hu
     simp only [preTys, List.mem_append] at hu
     rcases hu with hu | hu
     ·exact (hh t List.mem_cons_self).pre u hu
     ·exact ih (fun w hw => hh w (List.mem_cons_of_mem _ hw)) hu
  exact this l hl hu
theorem Qiq {a b : Ty} (ha : NamesTy a) (hb : NamesTy b) : NamesTy (fnTy a b) := by
 refine Q6o (by decide) fun t ht => ?_
 simp only [List.map_cons, List.map_nil, List.mem_cons, List.not_mem_nil, or_false] at ht
 rcases ht with rfl | rfl
 ·exact Qcd ha
 ·exact Qcd hb
theorem Qg5 (n : Int) : NamesTy (tvar n) := Q6o (by decide) (by simp)
theorem Qce {d : Dec} (h : d.name.length < 2^40) : NamesTy (resR d) := by
 unfold resR
 cases decide (d.kind = 4) with
 | true => exact Q6o (by decide) (by simp)
 | false =>
   refine Q6o h fun t ht => ?_
   cases hk : decide (d.kind = 3) with
   | false => rw [hk] at ht; simp at ht
   | true =>
     rw [hk, cond_true] at ht
     obtain ⟨i, -, rfl⟩ := List.mem_map.1 ht
     exact Qg5 _
theorem QjN {d : Dec} (h : d.params ≤ 8) : (resR d).size ≤ 10 := by
 unfold resR
 cases decide (d.kind = 4) with
 | true => simp only [cond_true, ofTy, List.map_nil, Ty.size, Ty.sizes]; omega
 | false =>
   simp only [cond_false, Ty.size]
   cases decide (d.kind = 3) with
   | false => simp only [cond_false, Ty.sizes]; omega
   | true => simp only [cond_true, varsTy_sizes0]; omega
where
 varsTy_sizes0 (n : Nat) : Ty.sizes (varsTy n) = n := by
  unfold varsTy
  induction n with
  | zero => rfl
  | succ n ih =>
    have : ∀ a b : List Ty, Ty.sizes (a ++ b) = Ty.sizes a + Ty.sizes b := fun a b => by
     induction a with
     | nil => simp [Ty.sizes]
     | cons t a ih => simp only [List.cons_append, Ty.sizes, ih]; omega
    rw [List.range_succ, List.map_append, this, ih]
    simp [tvar, Ty.sizes, Ty.size]
theorem Qfz {res : Ty} {vars : Int} {data : Str} {of_ : Int} (hr : NamesTy res) (hp : NamesTy (putTy res [])) (hsz : (putTy res []).size ≤ 10) (hsr : res.size ≤ 10) (hd : data.length < 2^40) : ∀ (l : List Con) (tag : Int), (∀ c ∈ l, c.name.length < 2^40 ∧ (c.has = true → NamesTy c.arg)) → (∀ p ∈ newD res vars data of_ l tag, PlaceOK p) ∧ Place.sizes (newD res vars data of_ l tag) ≤ Con.sizes l + 11 * l.length
 | [], _, _ => ⟨by simp [newD], Nat.zero_le _⟩
 | c :: l, tag, h => by
   obtain ⟨h1, h2⟩ := Qfz hr hp hsz hsr hd l (tag + 1) fun x hx => h x (List.mem_cons_of_mem _ hx)
   obtain ⟨h3, h4⟩ := h c List.mem_cons_self
   refine ⟨fun p hp' => ?_, ?_⟩
   ·simp only [newD, List.mem_cons] at hp'
    rcases hp' with rfl | hp'
    ·refine ⟨h3, hd, ?_⟩
     simp only [conPlace]
     cases hh : c.has with
     | true => exact Qiq (h4 hh) hr
     | false => exact hp
    ·exact h1 p hp'
   ·have hc : 1 ≤ c.arg.size := by cases c.arg; simp only [Ty.size]; omega
    rw [List.length_cons]
    have : (conPlace res vars data tag of_ c).ty.size ≤ c.arg.size + 11 := by
     simp only [conPlace]
     cases hh : c.has with
     | true =>
       simp only [cond_true, fnTy, ofTy, List.map_cons, List.map_nil, Ty.size, Ty.sizes, Q6r]; omega
     | false => simp only [cond_false]; omega
    simp only [newD, Place.sizes, Con.sizes, Con.size]; omega
theorem QhX {i : Bool} {d : Dec} {c : Con} (h : c ∈ d.cons) : .con c ∈ nodesDec i d := by
 cases d with
 | mk k a s p l lb cs cb f fb =>
   simp only [nodesDec]
   exact List.mem_cons_of_mem _ (List.mem_append_right _ (List.mem_append_right _ (Q7b h)))
theorem QeF {i : Bool} {d : Dec} {c : Con} (h : c ∈ d.cons) (hh : c.has = true) : ∀ n ∈ nodesTy c.at_ c.arg, n ∈ nodesDec i d := by
 intro n hn
 have : ∀ l : List Con, c ∈ l → n ∈ nodesCons l := fun l => by
  induction l with
  | nil => intro h; cases h
  | cons x l ih =>
    intro h
    simp only [nodesCons, List.mem_append]
    rcases List.mem_cons.1 h with rfl | h
    ·left; simp only [nodesCon, hh, cond_true]; exact List.mem_cons_of_mem _ hn
    ·exact .inr (ih h)
 cases d with
 | mk k a s p l lb cs cb f fb =>
   simp only [nodesDec]
   exact List.mem_cons_of_mem _ (List.mem_append_right _ (List.mem_append_right _ (this l h)))
theorem Qib {t : List Place} {d : Dec} (hd : okD d = true) (hz : (addD t d).2.kind = 0) (hok : ∀ p ∈ t, PlaceOK p) (hdo : ∀ n ∈ nodesDecs false [d], n.ok) : (∀ p ∈ (addD t d).1, PlaceOK p) ∧ Place.sizes (addD t d).1 ≤ Place.sizes t + d.size + 704 := by
 have D := Q7H hd
 have hnd : ∀ n ∈ nodesDec false d, n.ok := fun n hn => hdo n (by simp only [nodesDecs, List.append_nil]; exact hn)
 have hname : d.name.length < 2^40 := by
  cases d with
  | mk k a s p l lb cs cb f fb => exact hnd (.dec false (.mk k a s p l lb cs cb f fb)) (by simp only [nodesDec]; exact List.mem_cons_self)
 have hcons : ∀ c ∈ d.cons, c.name.length < 2^40 ∧ (c.has = true → NamesTy c.arg) := fun c hc => by
  refine ⟨hnd _ (QhX hc), fun hh n hn => ?_⟩
  rw [ZK] at hn
  obtain ⟨u, hu, rfl⟩ := List.mem_map.1 hn
  have := hnd (.ty u c.at_) (QeF hc hh _ (by rw [ZK]; exact List.mem_map.2 ⟨u, hu, rfl⟩))
  exact this
 have hcs : Con.sizes d.cons ≤ d.size := by cases d; simp only [Dec.size, Dec.cons]; omega
 have hlen : d.kind = 3 ∨ d.kind = 4 → d.cons.length ≤ 64 := fun hk => by
  rcases hk with k | k
  ·have := (D.data k).2.2.2.2.2.2; omega
  ·have := (D.exn k).2.2; omega
 have main : ∀ (vars : Int) (data : Str) (of_ tag : Int), d.kind = 3 ∨ d.kind = 4 → data.length < 2^40 → (addD t d).1 = t ++ newD (resR d) vars data of_ d.cons tag → (∀ p ∈ (addD t d).1, PlaceOK p) ∧ Place.sizes (addD t d).1 ≤ Place.sizes t + d.size + 704 := fun vars data of_ tag hk hdata hu => by
  have hsz := QjN (d := d) (by
   rcases hk with k | k
   ·exact (D.data k).2.2.2.1
   ·have := (D.bare (by omega)).1; omega)
  obtain ⟨h1, h2⟩ := Qfz (vars := vars) (of_ := of_) (Qce hname) (by rw [Qbk d hk]; exact Qce hname) (by rw [Qbk d hk]; exact hsz) hsz hdata d.cons tag hcons
  have := hlen hk
  rw [hu]
  refine ⟨fun p hp => ?_, by rw [Place.sizes_app]; omega⟩
  rcases List.mem_append.1 hp with hp | hp
  ·exact hok p hp
  ·exact h1 p hp
 cases (Q7Y hz).2 with
 | data k3 hk hu hf hw =>
   rw [Q96 d (.inl k3)] at hu
   exact main _ _ _ _ (.inl k3) hname hu
 | exn k4 hu hf hw =>
   have : resR d = ofTy sExn [] := by simp [resR, k4]
   rw [← this] at hu
   exact main _ _ _ _ (.inr k4) (by decide) hu
 | other k3 k4 hu => rw [hu]; exact ⟨hok, by omega⟩
theorem Q2K (t u : List Place) (d : Dec) (ht : TabOK t) (hu : TabOK u) (hlen : u.length = t.length + d.cons.length) (v w : AV) (hv : (Slot.val v).list? = some (t.map Place.enc)) (hw : (Slot.val w).list? = some (u.map Place.enc)) (hc : d.cons.length < 2^40)
  (H : ∀ i c, d.cons[i]? = some c → findD c.name t = none ∧ ∃ p, u[t.length + i]? = some p ∧ findD c.name u = some p ∧ p.has = c.has) : ∀ (suf pre : List Con) (s : St) (i : Nat), pre ++ suf = d.cons → i = pre.length →
  Ret (Zq (.val v) (d.cells.map .val) (.val w) (.val (.int .i64 i)) s) s (.bool true)
 | [], pre, s, i, hp, hi => by
   subst hi
   obtain ⟨s1, e1, g1⟩ := Q13 s
   refine ⟨s1, ?_, g1⟩
   rw [Q2m]
   simp only [go_sem, Dec.cells_eq, List.map_cons, List.map_nil, List.length_map, Q9 (show pre = d.cons by simpa using hp), e1]
 | c :: suf, pre, s, i, hp, hi => by
   subst hi
   obtain ⟨f1, f2, f3⟩ := Q8 (x := .val (encS d.nb (d.cons.map Con.enc))) (Qf _ _) hp (by omega) (Con.cells_len c) (by decide)
   obtain ⟨h1, p, h2, h3, h4⟩ := H pre.length c (by rw [← hp]; simp)
   obtain ⟨s1, e1, g1⟩ := Q3g c.name u (by have := hu.len; omega) hu.wide w hw s
   obtain ⟨s2, e2, g2⟩ := Q3g c.name t (by have := ht.len; omega) ht.wide v hv s1
   rw [h3] at e1
   rw [h1] at e2
   have hpm : p ∈ u := List.mem_of_getElem? h2
   have e3 := Q2Q p p (by have := Place.mem_sizes hpm; have := hu.size; omega) s2
   rw [Qh0] at e3
   obtain ⟨s3, e4, g3⟩ := Q2K t u d ht hu hlen v w hv hw hc H suf (pre ++ [c]) s2 (pre.length + 1) (by simpa using hp) (by simp)
   have w1 : IntKind.i64.wrap ((t.length : Int) + (pre.length : Int)) = ((t.length + pre.length : Nat) : Int) := by
    have h5 := ht.len
    have : pre.length < d.cons.length := by rw [← hp]; simp
    rw [wrap64 (by omega) (by omega)]; omega
   have f4 : ixS 10 (.val w) (.val (.int .i64 ((t.length + pre.length : Nat) : Int))) = some (.val (.cp p.cells)) := Q5T (n := t.length + pre.length) (v := p.enc) hw (by rw [List.getElem?_map, h2]; rfl) (Place.cells_len p) (by decide)
   have hb : (p.has == c.has) = true := by rw [h4]; cases c.has <;> rfl
   refine ⟨s3, ?_, (g1.trans g2).trans g3⟩
   simp only [foundD, Place.enc, Place.cells_eq, Place.zero, Ty.zero, Ty.kind, Ty.n, Ty.name, Ty.args, Ty.nl, List.map_nil, Q4E] at e1 e2 e3 f4
   simp only [Dec.cells_eq, List.map_cons, List.map_nil] at e4
   rw [Q2m]
   simp only [go_sem, Nat.reduceAdd, Nat.reduceLeDiff, Dec.cells_eq, List.map_cons, List.map_nil, List.length_map, f1, f2, f3, Con.cells, e1, e2, e3, hv, w1, f4, hb, Bool.not_true, Bool.or_false]
   exact e4
theorem Q6j (t : List Place) (hok : ∀ p ∈ t, PlaceOK p) (v : AV) (hv : (Slot.val v).list? = some (t.map Place.enc)) (d : Dec) (hs : Place.sizes t + d.size ≤ 2^20) (hdo : ∀ n ∈ nodesDecs false [d], n.ok) (s : St) : Ret (cw (.f Q0r) [v, d.enc] s) s (.bool true) := by
 have ht : TabOK t := ⟨by omega, hok⟩
 obtain ⟨s1, e1, g1⟩ := Q97 d (by omega) hdo s
 have hlen := Place.len_sizes t
 rw [Q7t]
 simp only [Dec.enc, Dec.cells_eq] at e1
 cases h : okD d with
 | false =>
   rw [h] at e1
   obtain ⟨s5, e5, g5⟩ := Q13 s1
   refine ⟨s5, ?_, g1.trans g5⟩
   simp only [go_sem, Nat.reduceAdd, Nat.reduceLeDiff, Dec.enc, Dec.cells_eq, List.map_cons, List.map_nil, e1, Bool.not_false, e5]
 | true =>
   rw [h] at e1
   obtain ⟨s2, e2, g2⟩ := Q2G t ht v hv s1
   cases hr : rightTD t with
   | false =>
     rw [hr] at e2
     obtain ⟨s5, e5, g5⟩ := Q13 s2
     refine ⟨s5, ?_, (g1.trans g2).trans g5⟩
     simp only [go_sem, Nat.reduceAdd, Nat.reduceLeDiff, Dec.enc, Dec.cells_eq, List.map_cons, List.map_nil, e1, Bool.not_true, Bool.not_false, e2, e5]
   | true =>
     rw [hr] at e2
     have hF := QfB (by omega) h
     have hcl : d.cons.length ≤ 2^20 := by
      have h1 := Con.len_sizes d.cons
      have h2 : Con.sizes d.cons ≤ d.size := by cases d; simp only [Dec.size, Dec.cons]; omega
      omega
     obtain ⟨s3, w3, e3, h3, g3⟩ := Q3L t d (by omega) ht.wide hF.1 (by omega) hF.2 v hv s2
     by_cases hz : (addD t d).2.kind = 0
     ·obtain ⟨k1, k2⟩ := Q7Y hz
      obtain ⟨q1, q2, q3⟩ := Qh8 h hz
      obtain ⟨r1, r2⟩ := Qib h hz hok hdo
      have hu : TabOK (addD t d).1 := ⟨by omega, r1⟩
      obtain ⟨s4, e4, g4⟩ := Q2G (addD t d).1 hu w3 h3 s3
      rw [Qg0 hr h hz] at e4
      rw [k1] at e3
      obtain ⟨w5, e5, h5⟩ := QaD (t := C.ti Qz) Q73 h3 (sz := 10) (fun x hx => by
       obtain ⟨p, _, rfl⟩ := List.mem_map.1 hx
       exact Place.cells_len p) (by decide) (lo := none) (hi := some (.val (.int .i64 ((t.length : Nat) : Int)))) (Q58 (n := t.length) (by rw [List.length_map]; omega)) rfl
      rw [List.drop_zero, ← List.map_take, q2] at h5
      have e6 := QaB t t w5 v h5 hv (by omega) (fun p hp => by have := Place.mem_sizes hp; omega) s4
      rw [(Q5g t t).2 rfl] at e6
      obtain ⟨s6, e7, g6⟩ := Q2K t (addD t d).1 d ht hu q1 v w3 hv h3 (by omega) q3 d.cons [] s4 0 rfl rfl
      rw [show ((0 : Nat) : Int) = 0 from rfl] at e7
      have w1 : IntKind.i64.wrap ((t.length : Int) + (d.cons.length : Int)) = ((t.length + d.cons.length : Nat) : Int) := by
       rw [wrap64 (by omega) (by omega)]; omega
      have w2 : decide ((((addD t d).1.length : Nat) : Int) = ((t.length + d.cons.length : Nat) : Int)) = true := by rw [q1]; exact decide_eq_true rfl
      refine ⟨s6, ?_, (((g1.trans g2).trans g3).trans g4).trans g6⟩
      simp only [TBad.enc, TBad.cells, TBad.zero, Dec.enc, Dec.cells_eq] at e3
      simp only [Dec.cells_eq, List.map_cons, List.map_nil] at e7
      simp only [go_sem, Nat.reduceAdd, Nat.reduceLeDiff, Dec.enc, Dec.cells_eq, List.map_cons, List.map_nil, e1, e2, Bool.not_true, e3, Q4e, decide_true, hv, h3, List.length_map, w1, w2, e4, e5, e6]
      exact e7
     ·obtain ⟨s5, e5, g5⟩ := Q13 s3
      rw [QhN t d hz] at h3
      have hb : decide (TBad.mk (addD t d).2.kind (addD t d).2.at_ (addD t d).2.name = TBad.mk 0 0 []) = false := decide_eq_false fun e => hz (by injection e)
      refine ⟨s5, ?_, ((g1.trans g2).trans g3).trans g5⟩
      simp only [TBad.enc, TBad.cells, Dec.enc, Dec.cells_eq] at e3
      simp only [go_sem, Nat.reduceAdd, Nat.reduceLeDiff, Dec.enc, Dec.cells_eq, List.map_cons, List.map_nil, e1, e2, Bool.not_true, Bool.not_false, e3, Q4e, hb, h3, List.length_nil, Int.natCast_zero, decide_true, e5]
theorem Q6U {k0 k1 : Nat} (t : List Place) (b : Bool) (g : GPlaces k0 t) (d : Dec) (gd : GDec k1 d) (hb : k0 + (k1 + 0) ≤ 1048576) : Ret (cw (.f Q0r) [encS b (t.map Place.enc), d.enc] st0) st0 (.bool true) :=
 Q6j t g.2 _ (Qf _ _) d (by have := g.1; have := gd.1; omega) (fun n hn => gd.2 false n (by simpa only [nodesDecs, List.append_nil] using hn)) st0
end Go.Proofs.YtoahliipbclneaaGreat