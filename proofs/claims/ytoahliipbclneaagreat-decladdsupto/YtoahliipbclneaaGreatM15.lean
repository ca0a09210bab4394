/- A part of the proof: SKnows, SRef13, PRN, PDeclOK, PBare, PTab, SLaw11, LDeclOf, RDec11, LDeclAdds. -/
import Derived.Test.YtoahliipbclneaaGreatM8
import Derived.Test.YtoahliipbclneaaGreatM9
import Derived.Test.YtoahliipbclneaaGreatM10
import Derived.Test.YtoahliipbclneaaGreatM12
import Derived.Test.YtoahliipbclneaaGreatM13
import Derived.Test.YtoahliipbclneaaGreatM14
set_option linter.unusedVariables false
set_option linter.unusedSimpArgs false
namespace Go.Am
open Go
@[go_sem] theorem Qn6 {l : List AV} {off sz : Nat} {m : List AV} (h : sz = 1) (k : off + 1 ≤ l.length) (r : List (Nat × Nat × Slot)) : fillS l ((off, sz, .full m) :: r) = fillS (l.take off ++ ([.sl m] ++ l.drop (off + 1))) r := by
  subst h
  exact Qgr (x := .full m) (v := .sl m) rfl rfl rfl k r
end Go.Am
namespace Go.Proofs.YtoahliipbclneaaGreat
open Go Go.Am
set_option linter.unusedVariables false
set_option maxRecDepth 4000
theorem eqBad (a b a' b' : Int) (c c' : Str) : eqS (C.ti Q6) (.agg [.int .i64 a, .int .i64 b, .str c]) (.agg [.int .i64 a', .int .i64 b', .str c']) = some (decide (TBad.mk a b c = TBad.mk a' b' c')) := by
 unfold eqS
 simp only [Qjd, Qg8]
 have e1 : (a == a') = decide (a = a') := by rw [Bool.eq_iff_iff]; simp
 have e2 : (b == b') = decide (b = b') := by rw [Bool.eq_iff_iff]; simp
 have e3 : (c == c') = decide (c = c') := by rw [Bool.eq_iff_iff]; simp
 by_cases h1 : a = a' <;> by_cases h2 : b = b' <;> by_cases h3 : c = c' <;> simp [eqAll, TK.has, AV.eqb, e1, e2, e3, h1, h2, h3]
theorem Qgg (a b a' b' : Int) (c c' : Str) : binS (C.ti Q6) .eql (.val (.agg [.int .i64 a, .int .i64 b, .str c])) (.val (.agg [.int .i64 a', .int .i64 b', .str c'])) = some (.val (.bool (decide (TBad.mk a b c = TBad.mk a' b' c')))) := by
 unfold binS
 simp only [Q0j, eqBad]
 rfl
theorem Q4Z (a b a' b' : Int) (c c' : Str) : binS (C.ti Q6) .neq (.val (.agg [.int .i64 a, .int .i64 b, .str c])) (.val (.agg [.int .i64 a', .int .i64 b', .str c'])) = some (.val (.bool (!decide (TBad.mk a b c = TBad.mk a' b' c')))) := by
 unfold binS
 simp only [Q0j, eqBad]
 rfl
@[go_sem] theorem Q92 (a b : Int) (c : Str) : binS (C.ti Q6) .eql (.val (.agg [.int .i64 a, .int .i64 b, .str c])) (.val (.agg [.int .i64 a, .int .i64 b, .str c])) = some (.val (.bool true)) := by
  rw [Qgg, decide_eq_true rfl]
def kE1 : Exp := .mk 4 0 [] 0 [.mk 1 0 [] 1 [] true [] true [] true] false [] true [] true
def kP : Pat := .mk 6 0 [120] 0 [.mk 2 0 [121] 0 [] true] false
def kE2 : Exp := .mk 2 4 [78, 105, 108] 0 [] true [] true [] true
def kD : List Dec := [.mk 1 0 [] 0 [] true [.mk kP kE1] false [] true]
theorem k1 : rightN (nodesExp kE1) (deepExp kE1) = ⟨19, 0, []⟩ := by decide +kernel
theorem k2 : rightN (nodesExp kE2) (deepExp kE2) = ⟨8, 4, [78, 105, 108]⟩ := by decide +kernel
theorem k3 : countN (nodesDecs false kD) = 5 := by decide +kernel
theorem k4 : varsPat kP = [[120], [121]] := by decide +kernel
end Go.Proofs.YtoahliipbclneaaGreat
namespace Go.Proofs.YtoahliipbclneaaGreat
open Go Go.Am
set_option linter.unusedVariables false
set_option maxRecDepth 4000
theorem Q7m (p q : Place) (h : p.ty.size < 2^40) (s : St) : cw (.f Q2b) [p.enc, q.enc] s = some (.ret (.val (.bool (eqPl p q))), s) := by
 have e1 := fun s => Q8v _ p.ty (Nat.le_refl _) h q.ty s
 simp only [Ty.enc, Ty.cells_eq] at e1
 rw [Q8u]
 simp only [go_sem, Nat.reduceAdd, Nat.reduceLeDiff, Place.enc, Place.cells_eq, List.map_cons, List.map_nil, e1]
 rfl
theorem Q6d (t u : List Place) (x y : Slot) (hx : x.list? = some (t.map Place.enc)) (hy : y.list? = some (u.map Place.enc)) (hl : t.length < 2^40) (he : t.length = u.length) (hw : ∀ p ∈ t, p.ty.size < 2^40) (s : St) : ∀ (suf suf' pre pre' : List Place) (i : Nat), pre ++ suf = t → pre' ++ suf' = u → i = pre.length → pre'.length = pre.length →
  Q1t x y (.val (.int .i64 i)) s = some (.ret (.val (.bool (eqTab suf suf'))), s)
 | [], suf', pre, pre', i, hp, hp', hi, hi' => by
   subst hi
   have : suf' = [] := by
    have h1 : t.length = pre.length := by rw [← hp]; simp
    have h2 : u.length = pre'.length + suf'.length := by rw [← hp']; simp
    exact List.eq_nil_of_length_eq_zero (by omega)
   subst this
   rw [Q5G]; simp only [go_sem, hx, List.length_map, Qa (show pre = t by simpa using hp), eqTab]
 | p :: suf, [], pre, pre', i, hp, hp', hi, hi' => by
   have h1 : t.length = pre.length + (suf.length + 1) := by rw [← hp]; simp
   have h2 : u.length = pre'.length := by rw [← hp']; simp
   omega
 | p :: suf, q :: suf', pre, pre', i, hp, hp', hi, hi' => by
   subst hi
   obtain ⟨f1, f2, f3⟩ := Q8 hx hp (by omega) (Place.cells_len p) (by decide)
   obtain ⟨f4, f5, f6⟩ := Q8 hy hp' (by omega) (Place.cells_len q) (by decide)
   rw [hi'] at f5
   have ih := Q6d t u x y hx hy hl he hw s suf suf' (pre ++ [p]) (pre' ++ [q]) (pre.length + 1) (by simpa using hp) (by simpa using hp') (by simp) (by simp [hi'])
   have e1 := Q7m p q (hw p (by rw [← hp]; simp)) s
   simp only [Place.enc, Place.cells_eq] at e1
   rw [Q5G]
   cases e : eqPl p q with
   | true =>
     rw [e] at e1
     simp only [go_sem, Nat.reduceAdd, Nat.reduceLeDiff, hx, List.length_map, f1, f2, f3, f5, Place.cells_eq, List.map_cons, List.map_nil, e1, Bool.not_true, ih, eqTab, e, Bool.true_and]
   | false =>
     rw [e] at e1
     simp only [go_sem, Nat.reduceAdd, Nat.reduceLeDiff, hx, List.length_map, f1, f2, f3, f5, Place.cells_eq, List.map_cons, List.map_nil, e1, Bool.not_false, eqTab, e, Bool.false_and]
theorem Q6e (t u : List Place) (v w : AV) (hv : (Slot.val v).list? = some (t.map Place.enc)) (hw' : (Slot.val w).list? = some (u.map Place.enc)) (hl : t.length < 2^40) (hw : ∀ p ∈ t, p.ty.size < 2^40) (s : St) :
  cw (.f Q1N) [v, w] s = some (.ret (.val (.bool (eqTab t u))), s) := by
 rw [Qdr]
 by_cases he : t.length = u.length
 ·have e1 := Q6d t u (.val v) (.val w) hv hw' hl he hw s t u [] [] 0 rfl rfl rfl rfl
  rw [show ((0 : Nat) : Int) = 0 from rfl] at e1
  have he' : decide ((t.length : Int) = (u.length : Int)) = true := by simp only [decide_eq_true_eq]; omega
  simp only [go_sem, hv, hw', List.length_map, he', Bool.not_true, e1]
 ·have he' : decide ((t.length : Int) = (u.length : Int)) = false := by simp only [decide_eq_false_iff_not]; omega
  have : eqTab t u = false := by
   cases h : eqTab t u with
   | false => rfl
   | true => exact absurd (Q8a h) he
  simp only [go_sem, hv, hw', List.length_map, he', Bool.not_false, this]
theorem Q6V (p : Place) (s : St) : cw (.f Q3Y) [p.enc] s = some (.ret (.val (conR p).enc), s) := by
 obtain ⟨nm, data, tag, of_, has, vars, k, n, tn, l, b⟩ := p
 rw [QeH]
 cases has with
 | false => simp only [go_sem, Nat.reduceAdd, Nat.reduceLeDiff, Place.enc, Place.cells_eq, Ty.kind, Ty.n, Ty.name, Ty.args, Ty.nl, conR, Con.enc, Con.cells, Bool.false_and, Ty.zero]
 | true =>
   cases l with
   | nil => simp only [go_sem, Int.reduceGT, Nat.reduceAdd, Nat.reduceLeDiff, Place.enc, Place.cells_eq, Ty.kind, Ty.n, Ty.name, Ty.args, Ty.nl, conR, Con.enc, Con.cells, Bool.true_and, List.length_map, Ty.zero, List.map_nil, List.length_nil, Int.natCast_zero]
   | cons a l =>
     have f1 : ixS 4 (.val (encS b ((a :: l).map Ty.enc))) (.val (.int .i64 0)) = some (.val (.cp a.cells)) := Q3S (n := 0) (v := a.enc) (Qg _ _) rfl (Ty.cells_len a) (by decide)
     simp only [List.map_cons, Q87] at f1
     have h : decide (((l.length + 1 : Nat) : Int) > 0) = true := decide_eq_true (by omega)
     have hc : conR ⟨nm, data, tag, of_, true, vars, .mk k n tn (a :: l) b⟩ = ⟨nm, 0, true, a⟩ := by
      have h' : ((l.length + 1 : Nat) : Int) > 0 := by omega
      simp only [conR, Ty.args, List.length_cons, h', decide_true, Bool.and_self, cond_true, List.headD_cons]
     rw [hc]
     simp only [go_sem, Nat.reduceAdd, Nat.reduceLeDiff, Place.enc, Place.cells_eq, Ty.kind, Ty.n, Ty.name, Ty.args, Ty.nl, Con.enc, Con.cells, List.map_cons, f1, List.length_map, List.length_cons, h, Ty.cells_eq]
theorem conAcc {s0 s : St} {x : Slot} {l : List Con} (a : AccR Qf s0 s x (l.map Con.enc)) (c : Con) (hl : l.length < 2^29) : ∃ x' s', appendS Qf (C.ti Qf) s x (.full [c.enc]) = some (x', s') ∧ AccR Qf s0 s' x' ((l ++ [c]).map Con.enc) := by
 exact AccR.appendF (B := [c]) a rfl (fun a => by rw [Z3]; exact Con.cells_len a) (by rw [Z3]; decide) (by simp only [List.length_singleton]; omega) (by rw [Q6o]; decide)
theorem decAcc {s0 s : St} {x : Slot} {l : List Dec} (a : AccR Q9 s0 s x (l.map Dec.enc)) (c : Dec) (hl : l.length < 2^29) : ∃ x' s', appendS Q9 (C.ti Q9) s x (.full [c.enc]) = some (x', s') ∧ AccR Q9 s0 s' x' ((l ++ [c]).map Dec.enc) := by
 exact AccR.appendF (B := [c]) a rfl (fun a => by rw [Ze]; exact Dec.cells_len a) (by rw [Ze]; decide) (by simp only [List.length_singleton]; omega) (by rw [Q6p]; decide)
section
variable (t : List Place) (v : AV) (s0 : St)
def DecsL0 (suf : List Place) : Prop := ∀ (pre : List Place) (A : List Dec) (x : Slot) (s : St), pre ++ suf = t → AccR Q9 s0 s x (A.map Dec.enc) → A.length ≤ pre.length → (∀ p ∈ suf.head?, ∀ d ∈ A.getLast?, joins p d = false) →
 RetA (ZH (.val v) x (.val (.int .i64 pre.length)) s) Q9 s0 ((suf.foldl stepR A).map Dec.enc)
def openC (nm : Str) (p : Int) (y : Slot) : List Slot := [.val (.int .i64 3), .val (.int .i64 0), .val (.str nm), .val (.int .i64 p), y, .val .nils, .val .nils]
def DecsL1 (suf : List Place) : Prop := ∀ (pre : List Place) (A : List Dec) (x : Slot) (s1 s : St) (nm : Str) (n : Int) (cs : List Con) (y : Slot), pre ++ suf = t → AccR Q9 s0 s1 x (A.map Dec.enc) → A.length + 1 ≤ pre.length → nm ≠ sExn → cs ≠ [] → cs.length ≤ pre.length → AccR Qf s1 s y (cs.map Con.enc) →
 RetA (Q1r (.val v) x (.val (.int .i64 pre.length)) (openC nm n y) (.val (.str nm)) s) Q9 s0 ((suf.foldl stepR (A ++ [dataDec nm n cs])).map Dec.enc)
theorem Q93 {nm : Str} {n : Int} {cs : List Con} (h : cs ≠ []) (b : Bool) : AV.agg [.int .i64 3, .int .i64 0, .str nm, .int .i64 n, encS b (cs.map Con.enc), .nils, .nils] = (dataDec nm n cs).enc := by
 cases cs with
 | nil => exact absurd rfl h
 | cons c cs => simp only [dataDec, Dec.enc, Dec.cells_mk, ZN, List.map_cons, Q87, List.map_nil, Zq]
theorem Q95 (hv : (Slot.val v).list? = some (t.map Place.enc)) (ht : t.length < 2^26) (suf : List Place) (H0 : DecsL0 t v s0 suf) : ∀ (pre : List Place) (A : List Dec) (x : Slot) (s1 s : St) (nm : Str) (n : Int) (cs : List Con) (y : Slot), pre ++ suf = t → AccR Q9 s0 s1 x (A.map Dec.enc) → A.length + 1 ≤ pre.length → cs ≠ [] → AccR Qf s1 s y (cs.map Con.enc) → (∀ p ∈ suf.head?, p.data ≠ nm) →
  ∃ x' s', appendS Q9 (C.ti Q9) s x (.full [(dataDec nm n cs).enc]) = some (x', s') ∧ RetA (ZH (.val v) x' (.val (.int .i64 pre.length)) s') Q9 s0 ((suf.foldl stepR (A ++ [dataDec nm n cs])).map Dec.enc) := by
 intro pre A x s1 s nm n cs y hp a hA hcs b hn
 have hpl : pre.length ≤ t.length := by rw [← hp]; simp
 obtain ⟨x', s', e1, a1⟩ := decAcc (a.move b.grew) (dataDec nm n cs) (by omega)
 refine ⟨x', s', e1, H0 pre _ x' s' hp a1 (by rw [List.length_append, List.length_singleton]; omega) fun p hpm d hd => ?_⟩
 simp only [List.getLast?_append, List.getLast?_singleton, Option.some_or, Option.mem_def, Option.some.injEq] at hd
 subst hd
 have := hn p hpm
 simp only [joins, dataDec, Dec.kind, Dec.name, Ne.symm this, decide_false, Bool.and_false]
theorem Qe0 (hv : (Slot.val v).list? = some (t.map Place.enc)) (ht : t.length < 2^26) (p : Place) (suf : List Place) (H0 : DecsL0 t v s0 suf) (H1 : DecsL1 t v s0 suf) : DecsL0 t v s0 (p :: suf) := by
 intro pre A x s hp a hA hj
 have hlt : pre.length < t.length := by rw [← hp]; simp
 obtain ⟨f1, f2, f3⟩ := Q8 hv hp (by omega) (Place.cells_len p) (by decide)
 have ec := Q6V p s
 have hst : stepR A p = A ++ [mkR p] := by
  rcases List.eq_nil_or_concat A with rfl | ⟨q, e, rfl⟩
  ·rfl
  ·rw [List.concat_eq_append] at *
   rw [Q6g, hj p rfl e (by simp), cond_false]
 rw [List.foldl_cons, hst, Q5D]
 simp only [Place.enc, Place.cells_eq, Con.enc] at ec
 have hcn : (conR p).cells.length = 7 := Con.cells_len _
 cases hc : decide (p.data = sExn) with
 | true =>
   have hc' : decide (p.data = [101, 120, 110]) = true := hc
   obtain ⟨x', s', e1, a1⟩ := decAcc a (mkR p) (by omega)
   have hm : mkR p = exnDec (conR p) := by simp only [mkR, hc, cond_true]
   have ih := H0 (pre ++ [p]) _ x' s' (by simpa using hp) a1 (by simp only [List.length_append, List.length_singleton]; omega) (fun q hq d hd => by
    simp only [List.getLast?_append, List.getLast?_singleton, Option.some_or, Option.mem_def, Option.some.injEq] at hd
    subst hd
    rw [hm]; simp [joins, exnDec, Dec.kind])
   rw [hm] at e1
   simp only [exnDec, Dec.enc, Dec.cells_mk, ZN, List.map_cons, List.map_nil, Zq, Con.enc] at e1
   rw [List.length_append, List.length_singleton] at ih
   simp only [go_sem, Nat.reduceAdd, Nat.reduceLeDiff, hv, List.length_map, f1, f2, f3, Place.cells_eq, List.map_cons, List.map_nil, hc', ec, hcn, e1]
   exact ih
 | false =>
   have hc' : decide (p.data = [101, 120, 110]) = false := hc
   have hm : mkR p = dataDec p.data p.vars [conR p] := by simp only [mkR, hc, cond_false]
   obtain ⟨y', s', e1, b1⟩ := conAcc (AccR.nil Qf s) (l := []) (conR p) (by simp)
   have ih := H1 (pre ++ [p]) A x s s' p.data p.vars [conR p] y' (by simpa using hp) a (by simp only [List.length_append, List.length_singleton]; omega) (by simpa using hc) (by simp) (by simp) b1
   rw [List.length_append, List.length_singleton] at ih
   rw [hm]
   have hck := b1.cellOk
   simp only [Con.enc] at e1
   simp only [go_sem, Nat.reduceAdd, Nat.reduceLeDiff, hv, List.length_map, f1, f2, f3, Place.cells_eq, List.map_cons, List.map_nil, hc']
   rw [Q2P]
   simp only [openC] at ih
   simp only [go_sem, Nat.reduceAdd, Nat.reduceLeDiff, hv, List.length_map, f1, f2, f3, Place.cells_eq, List.map_cons, List.map_nil, decide_true, ec, hcn, e1, hck]
   exact ih
theorem Qe1 (hv : (Slot.val v).list? = some (t.map Place.enc)) (ht : t.length < 2^26) (p : Place) (suf : List Place) (H0 : DecsL0 t v s0 (p :: suf)) (H1 : DecsL1 t v s0 suf) : DecsL1 t v s0 (p :: suf) := by
 intro pre A x s1 s nm n cs y hp a hA hnm hcs hcl b
 have hlt : pre.length < t.length := by rw [← hp]; simp
 obtain ⟨f1, f2, f3⟩ := Q8 hv hp (by omega) (Place.cells_len p) (by decide)
 have ec := Q6V p s
 simp only [Place.enc, Place.cells_eq, Con.enc] at ec
 have hcn : (conR p).cells.length = 7 := Con.cells_len _
 rw [Q2P]
 by_cases hd : p.data = nm
 ·obtain ⟨y', s', e1, b1⟩ := conAcc b (conR p) (by omega)
  have hj : joins p (dataDec nm n cs) = true := by
   simp only [joins, dataDec, Dec.kind, Dec.name, hd, decide_true, Bool.and_true, decide_eq_false hnm, Bool.not_false]
  have ih := H1 (pre ++ [p]) A x s1 s' nm n (cs ++ [conR p]) y' (by simpa using hp) a (by simp only [List.length_append, List.length_singleton]; omega) hnm (by simp) (by simp only [List.length_append, List.length_singleton]; omega) b1
  have hst : stepR (A ++ [dataDec nm n cs]) p = A ++ [dataDec nm n (cs ++ [conR p])] := by
   rw [Q6g, hj, cond_true]; rfl
  rw [List.foldl_cons, hst]
  rw [List.length_append, List.length_singleton] at ih
  have hck := b1.cellOk
  simp only [Con.enc] at e1
  rw [hd] at ec
  simp only [openC] at ih ⊢
  simp only [go_sem, Nat.reduceAdd, Nat.reduceLeDiff, hv, List.length_map, f1, f2, f3, Place.cells_eq, List.map_cons, List.map_nil, hd, decide_true, ec, hcn, e1, hck]
  exact ih
 ·obtain ⟨nl, hav⟩ := b.av
  obtain ⟨x', s', e1, r1⟩ := Q95 t v s0 hv ht (p :: suf) H0 pre A x s1 s nm n cs y hp a hA hcs b (fun q hq => by simp only [List.head?_cons, Option.mem_def, Option.some.injEq] at hq; subst hq; exact hd)
  rw [← Q93 hcs nl] at e1
  simp only [openC]
  simp only [go_sem, Nat.reduceAdd, Nat.reduceLeDiff, hv, List.length_map, f1, f2, f3, Place.cells_eq, List.map_cons, List.map_nil, decide_eq_false hd, QH hav, e1]
  exact r1
theorem QdZ (hv : (Slot.val v).list? = some (t.map Place.enc)) (ht : t.length < 2^26) : ∀ suf, DecsL0 t v s0 suf ∧ DecsL1 t v s0 suf
 | [] => by
   have H0 : DecsL0 t v s0 [] := by
    intro pre A x s hp a hA hj
    rw [Q5D]
    simp only [go_sem, Nat.reduceAdd, Nat.reduceLeDiff, hv, List.length_map, Qa (show pre = t by simpa using hp), List.foldl_nil]
    exact ⟨x, s, rfl, a⟩
   refine ⟨H0, ?_⟩
   intro pre A x s1 s nm n cs y hp a hA hnm hcs hcl b
   obtain ⟨nl, hav⟩ := b.av
   obtain ⟨x', s', e1, r1⟩ := Q95 t v s0 hv ht [] H0 pre A x s1 s nm n cs y hp a hA hcs b (by simp)
   rw [← Q93 hcs nl] at e1
   rw [Q2P]
   simp only [openC]
   simp only [go_sem, Nat.reduceAdd, Nat.reduceLeDiff, hv, List.length_map, Qa (show pre = t by simpa using hp), List.map_cons, List.map_nil, QH hav, e1]
   exact r1
 | p :: suf => by
   obtain ⟨h0, h1⟩ := QdZ hv ht suf
   have H0 := Qe0 t v s0 hv ht p suf h0 h1
   exact ⟨H0, Qe1 t v s0 hv ht p suf H0 h1⟩
end
theorem Qb7 (t : List Place) (h6 : 6 ≤ t.length) (ht : t.length < 2^26) (v : AV) (hv : (Slot.val v).list? = some (t.map Place.enc)) (s : St) : RetA (cw (.f Q1M) [v] s) Q9 s ((decsR t).map Dec.enc) := by
 have e1 := (QdZ t v s hv ht (t.drop 6)).1 (t.take 6) [] (.val .nils) s (List.take_append_drop 6 t) (AccR.nil _ _) (by simp) (by simp)
 have hl : (t.take 6).length = 6 := by rw [List.length_take]; omega
 rw [hl, show ((6 : Nat) : Int) = 6 from rfl] at e1
 rw [Qdo]
 exact e1
theorem Qeu {d : Dec} (hs : d.size < 2^24) (h : okD d = true) : DecFitR d := by
 simp only [okD, decide_eq_true_eq] at h
 exact Qgj (P := [d]) (by simp only [Dec.sizes]; omega) (Q55.1 h) d (by simp)
theorem Q78 {l : List TNode} {D : Int} : decide (TBad.mk (rightN l D).kind (rightN l D).at_ (rightN l D).name = TBad.mk 0 0 []) = decide ((rightN l D).kind = 0) := by
 rw [decide_eq_decide]
 constructor
 ·intro h; injection h
 ·intro h
  rw [Q55.1 h]; rfl
theorem Qg2 {P pre suf : List Dec} {d : Dec} {x : Slot} (hx : x.list? = some (P.map Dec.enc)) (hp : pre ++ d :: suf = P) : sliceS (C.ti Qn) 7 x (some (.val (.int .i64 (pre.length : Int)))) (some (.val (.int .i64 ((pre.length + 1 : Nat) : Int)))) none = some (.val (.sl [d.enc])) := by
 have hlen : P.length = pre.length + (suf.length + 1) := by rw [← hp]; simp
 obtain ⟨w, e, hw⟩ := Q9m (t := C.ti Qn) Qcf hx (sz := 7) (fun x hx => by
  obtain ⟨p, _, rfl⟩ := List.mem_map.1 hx
  exact Dec.cells_len p) (by decide) (lo := some (.val (.int .i64 (pre.length : Int)))) (hi := some (.val (.int .i64 ((pre.length + 1 : Nat) : Int)))) (Q7Y (n := pre.length + 1) (by rw [List.length_map]; omega)) (Q7Y (by omega))
 have : ((P.map Dec.enc).take (pre.length + 1)).drop pre.length = [d.enc] := by
  rw [← hp, List.map_append, List.take_append, List.take_of_length_le (by simp), List.drop_append, List.drop_of_length_le (by simp)]
  simp
 rw [this] at hw
 rw [e, QjP hw]
theorem Q5F (t : List Place) (ht : ∀ p ∈ t, p.ty.size < 2^40) (htl : t.length < 2^40) (v : AV) (hv : (Slot.val v).list? = some (t.map Place.enc)) (P : List Dec) (hs : Dec.sizes P < 2^21) (hg : ∀ d ∈ P, DGood d) (x : Slot) (hx : x.list? = some (P.map Dec.enc)) (nl : Bool) (hav : x.av = some (encS nl (P.map Dec.enc))) : ∀ (suf pre : List Dec) (s : St) (i : Nat), pre ++ suf = P → i = pre.length → (∀ d ∈ pre, okD d = true) →
  Ret (Q13 (.val v) x (.val (.int .i64 i)) s) s (.bool (suf.all okD && (decide ((ofR P startD).2.kind = 0) && eqTab t (ofR P startD).1)))
 | [], pre, s, i, hp, hi, hk => by
   subst hi
   have hpP : pre = P := by simpa using hp
   subst hpP
   obtain ⟨s1, w, e1, hw, g1⟩ := Qdq pre nl (fun d hd => Qeu (by have := Dec.mem_sizes hd; omega) (hk d hd)) hs s
   have e2 := Q6e t (ofR pre startD).1 v w hv hw htl ht s1
   refine ⟨s1, ?_, g1⟩
   rw [Q4K]
   simp only [TBad.enc, TBad.cells] at e1
   simp only [go_sem, Nat.reduceAdd, Nat.reduceLeDiff, hx, List.length_map, Qa rfl, QH hav, e1, TBad.cells, List.map_cons, List.map_nil, e2, List.all_nil, Bool.true_and]
 | d :: suf, pre, s, i, hp, hi, hk => by
   subst hi
   obtain ⟨f1, f2, f3⟩ := Q8 hx hp (by have := Dec.len_sizes P; omega) (Dec.cells_len d) (by decide)
   have hd : d ∈ P := by rw [← hp]; simp
   obtain ⟨s1, e1, g1⟩ := Q5z [d] false s (by have := Dec.mem_sizes hd; simp only [Dec.sizes]; omega) (QfS (hg d hd))
   have e0 := Qg2 hx hp
   rw [Q4K]
   simp only [TBad.enc, TBad.cells, List.map_cons, List.map_nil, ZN] at e1
   cases h : okD d with
   | true =>
     obtain ⟨s2, e2, g2⟩ := Q5F t ht htl v hv P hs hg x hx nl hav suf (pre ++ [d]) s1 (pre.length + 1) (by simpa using hp) (by simp) (fun q hq => by
      rcases List.mem_append.1 hq with hq | hq
      ·exact hk q hq
      ·simp only [List.mem_singleton] at hq; subst hq; exact h)
     have h' : decide ((rightN (nodesDecs false [d]) (deepDecs [d] 0)).kind = 0) = true := h
     refine ⟨s2, ?_, g1.trans g2⟩
     simp only [go_sem, hx, List.length_map, f1, f3, e0, e1, Q4Z, Q78, h', Bool.not_true, List.all_cons, h, Bool.true_and]
     exact e2
   | false =>
     have h' : decide ((rightN (nodesDecs false [d]) (deepDecs [d] 0)).kind = 0) = false := h
     refine ⟨s1, ?_, g1⟩
     simp only [go_sem, hx, List.length_map, f1, f3, e0, e1, Q4Z, Q78, h', Bool.not_false, List.all_cons, h, Bool.false_and]
theorem Q9Z (t : List Place) (hs : Place.sizes t ≤ 2^20) (hok : ∀ p ∈ t, PlaceOK p) (v : AV) (hv : (Slot.val v).list? = some (t.map Place.enc)) (s : St) : Ret (cw (.f Q2C) [v] s) s (.bool (rightTR t)) := by
 have hlen := Place.len_sizes t
 rw [Qc4]
 by_cases h : (t.length : Int) < 6
 ·refine ⟨s, ?_, .refl s⟩
  simp only [go_sem, hv, List.length_map, h, decide_true, rightTR, Bool.not_true, Bool.false_and]
 ·obtain ⟨x, s1, e1, a1⟩ := Qb7 t (by omega) (by omega) v hv s
  obtain ⟨nl, hav⟩ := a1.av
  obtain ⟨s2, e2, g2⟩ := Q5F t (fun p hp => by have := Place.mem_sizes hp; omega) (by omega) v hv (decsR t) (by have := Qgp t; omega) (Qgo hok) x a1.list? nl hav (decsR t) [] s1 0 rfl rfl (by simp)
  rw [show ((0 : Nat) : Int) = 0 from rfl] at e2
  refine ⟨s2, ?_, a1.grew.trans g2⟩
  simp only [go_sem, hv, List.length_map, h, decide_false, e1, rightTR, Bool.not_false, Bool.true_and]
  exact e2
end Go.Proofs.YtoahliipbclneaaGreat
namespace Go.Proofs.YtoahliipbclneaaGreat
open Go Go.Am
set_option linter.unusedVariables false
def RN (l : List TNode) : Prop := ∀ n ∈ l, n.wrong.1 = 0
theorem RN.l {a b : List TNode} (h : RN (a ++ b)) : RN a := fun n hn => h n (List.mem_append_left _ hn)
theorem RN.r {a b : List TNode} (h : RN (a ++ b)) : RN b := fun n hn => h n (List.mem_append_right _ hn)
theorem RN.t {x : TNode} {a : List TNode} (h : RN (x :: a)) : RN a := fun n hn => h n (List.mem_cons_of_mem _ hn)
theorem RN.cases : ∀ {l : List Case}, RN (nodesCases l) → ∀ e ∈ l, RN (nodesCase e)
 | x :: l, h, e, he => by
   simp only [nodesCases] at h
   rcases List.mem_cons.1 he with rfl | he
   ·exact h.l
   ·exact h.r.cases e he
theorem RN.decs {i : Bool} : ∀ {l : List Dec}, RN (nodesDecs i l) → ∀ e ∈ l, RN (nodesDec i e)
 | x :: l, h, e, he => by
   simp only [nodesDecs] at h
   rcases List.mem_cons.1 he with rfl | he
   ·exact h.l
   ·exact h.r.decs e he
theorem RN.funs : ∀ {l : List Fun}, RN (nodesFuns l) → ∀ e ∈ l, RN (nodesCase e.case)
 | x :: l, h, e, he => by
   simp only [nodesFuns] at h
   rcases List.mem_cons.1 he with rfl | he
   ·cases e; simp only [nodesFun] at h; exact h.l.t
   ·exact h.r.funs e he
end Go.Proofs.YtoahliipbclneaaGreat
namespace Go.Proofs.YtoahliipbclneaaGreat
open Go Go.Am
set_option linter.unusedVariables false
theorem QdS {i : Bool} {d : Dec} (hr : RN (nodesDec i d)) : DecOK d := by
 have hw : wrongDecB d i = 0 := by cases d; simp only [nodesDec] at hr; exact hr _ List.mem_cons_self
 have D := QdU hw
 refine ⟨D.kind, fun h => (D.data h).2.2.1, fun h => by have := (D.exn h).2.2; omega, fun c hc hh u hu hk => ?_⟩
 have hmem : ∀ (l : List Con), c ∈ l → .ty u c.at_ ∈ nodesCons l := fun l => by
  induction l with
  | nil => intro h; cases h
  | cons x l ih =>
    intro h
    simp only [nodesCons, List.mem_append]
    rcases List.mem_cons.1 h with rfl | h
    ·left
     simp only [nodesCon, hh, cond_true]
     refine List.mem_cons_of_mem _ ?_
     rw [Q1C]
     exact List.mem_map.2 ⟨u, hu, rfl⟩
    ·exact .inr (ih h)
 have hn : .ty u c.at_ ∈ nodesDec i d := by
  cases d with
  | mk k a s p l lb cs cb f fb =>
  simp only [nodesDec]
  exact List.mem_cons_of_mem _ (List.mem_append_right _ (List.mem_append_right _ (hmem l hc)))
 have ht := QoI (t := u) (hr _ hn)
 exact ⟨(ht.2.1 hk).1, (ht.2.1 hk).2.1⟩
theorem Qfs : ∀ p ∈ startD, 0 ≤ p.vars := by
 intro p hp
 simp only [startD, List.mem_cons, List.not_mem_nil, or_false] at hp
 rcases hp with rfl | rfl | rfl | rfl | rfl | rfl <;> exact Int.le_refl _
end Go.Proofs.YtoahliipbclneaaGreat
namespace Go.Am
open Go
mutual
def nmTy : Ty → Ty
 | .mk k n s l _ => .mk k n s (nmTys l) true
def nmTys : List Ty → List Ty
 | [] => []
 | t :: l => nmTy t :: nmTys l
end
def nmAt (w : Bool) (a : Int) : Int := bif w then a else 0
mutual
def nmPat (w : Bool) : Pat → Pat
 | .mk k a s n l _ => .mk k (nmAt w a) s n (nmPats w l) true
def nmPats (w : Bool) : List Pat → List Pat
 | [] => []
 | t :: l => nmPat w t :: nmPats w l
end
def nmCon (w : Bool) (c : Con) : Con := ⟨c.name, nmAt w c.at_, c.has, nmTy c.arg⟩
def nmCons (w : Bool) : List Con → List Con
 | [] => []
 | t :: l => nmCon w t :: nmCons w l
mutual
def nmExp (w : Bool) : Exp → Exp
 | .mk k a s n l _ c _ d _ => .mk k (nmAt w a) s n (nmExps w l) true (nmCases w c) true (nmDecs w d) true
def nmExps (w : Bool) : List Exp → List Exp
 | [] => []
 | t :: l => nmExp w t :: nmExps w l
def nmCase (w : Bool) : Case → Case
 | .mk p e => .mk (nmPat w p) (nmExp w e)
def nmCases (w : Bool) : List Case → List Case
 | [] => []
 | t :: l => nmCase w t :: nmCases w l
def nmDec (w : Bool) : Dec → Dec
 | .mk k a s p l _ c _ f _ => .mk k (nmAt w a) s p (nmCons w l) true (nmCases w c) true (nmFuns w f) true
def nmDecs (w : Bool) : List Dec → List Dec
 | [] => []
 | t :: l => nmDec w t :: nmDecs w l
def nmFun (w : Bool) : Fun → Fun
 | .mk s a c => .mk s (nmAt w a) (nmCase w c)
def nmFuns (w : Bool) : List Fun → List Fun
 | [] => []
 | t :: l => nmFun w t :: nmFuns w l
end
theorem Q6E (w : Bool) (a b : Int) : atB w a b = true ↔ nmAt w a = nmAt w b := by cases w <;> simp [atB, nmAt]
mutual
theorem Q9D : ∀ t u : Ty, eqTy t u = true ↔ nmTy t = nmTy u
 | .mk k n s l b, .mk k' n' s' l' b' => by simp only [eqTy, nmTy, Ty.mk.injEq, Bool.and_eq_true, decide_eq_true_eq, Qcy l l', and_true, and_assoc]
theorem Qcy : ∀ l m : List Ty, eqTys l m = true ↔ nmTys l = nmTys m
 | [], [] => by simp [eqTys, nmTys]
 | [], _ :: _ => by simp [eqTys, nmTys]
 | _ :: _, [] => by simp [eqTys, nmTys]
 | t :: l, u :: m => by simp only [eqTys, nmTys, List.cons.injEq, Bool.and_eq_true, Q9D t u, Qcy l m]
end
mutual
theorem Qcw (w : Bool) : ∀ t u : Pat, eqPat w t u = true ↔ nmPat w t = nmPat w u
 | .mk k a s n l b, .mk k' a' s' n' l' b' => by
   simp only [eqPat, nmPat, Pat.mk.injEq, Bool.and_eq_true, decide_eq_true_eq, QaA w l l', Q6E, and_true]
   constructor <;> simp +contextual
theorem QaA (w : Bool) : ∀ l m : List Pat, eqPats w l m = true ↔ nmPats w l = nmPats w m
 | [], [] => by simp [eqPats, nmPats]
 | [], _ :: _ => by simp [eqPats, nmPats]
 | _ :: _, [] => by simp [eqPats, nmPats]
 | t :: l, u :: m => by simp only [eqPats, nmPats, List.cons.injEq, Bool.and_eq_true, Qcw w t u, QaA w l m]
end
theorem Qhl (w : Bool) (c d : Con) : eqCon w c d = true ↔ nmCon w c = nmCon w d := by
 simp only [eqCon, nmCon, Con.mk.injEq, Bool.and_eq_true, decide_eq_true_eq, Q9D, Q6E]
 constructor <;> simp +contextual
theorem Qaw (w : Bool) : ∀ l m : List Con, eqCons w l m = true ↔ nmCons w l = nmCons w m
 | [], [] => by simp [eqCons, nmCons]
 | [], _ :: _ => by simp [eqCons, nmCons]
 | _ :: _, [] => by simp [eqCons, nmCons]
 | t :: l, u :: m => by simp only [eqCons, nmCons, List.cons.injEq, Bool.and_eq_true, Qhl w t u, Qaw w l m]
mutual
theorem Qcv (w : Bool) : ∀ t u : Exp, eqExp w t u = true ↔ nmExp w t = nmExp w u
 | .mk k a s n l lb c cb d db, .mk k' a' s' n' l' lb' c' cb' d' db' => by
   simp only [eqExp, nmExp, Exp.mk.injEq, Bool.and_eq_true, decide_eq_true_eq, Qay w l l', Q6s w c c', Qax w d d', Q6E, and_true]
   constructor <;> simp +contextual
theorem Qay (w : Bool) : ∀ l m : List Exp, eqExps w l m = true ↔ nmExps w l = nmExps w m
 | [], [] => by simp [eqExps, nmExps]
 | [], _ :: _ => by simp [eqExps, nmExps]
 | _ :: _, [] => by simp [eqExps, nmExps]
 | t :: l, u :: m => by simp only [eqExps, nmExps, List.cons.injEq, Bool.and_eq_true, Qcv w t u, Qay w l m]
theorem Qav (w : Bool) : ∀ t u : Case, eqCase w t u = true ↔ nmCase w t = nmCase w u
 | .mk p e, .mk p' e' => by simp only [eqCase, nmCase, Case.mk.injEq, Bool.and_eq_true, Qcw w p p', Qcv w e e']
theorem Q6s (w : Bool) : ∀ l m : List Case, eqCases w l m = true ↔ nmCases w l = nmCases w m
 | [], [] => by simp [eqCases, nmCases]
 | [], _ :: _ => by simp [eqCases, nmCases]
 | _ :: _, [] => by simp [eqCases, nmCases]
 | t :: l, u :: m => by simp only [eqCases, nmCases, List.cons.injEq, Bool.and_eq_true, Qav w t u, Q6s w l m]
theorem Qhm (w : Bool) : ∀ t u : Dec, eqDec w t u = true ↔ nmDec w t = nmDec w u
 | .mk k a s p l lb c cb f fb, .mk k' a' s' p' l' lb' c' cb' f' fb' => by
   simp only [eqDec, nmDec, Dec.mk.injEq, Bool.and_eq_true, decide_eq_true_eq, Qaw w l l', Q6s w c c', Qaz w f f', Q6E, and_true]
   constructor <;> simp +contextual
theorem Qax (w : Bool) : ∀ l m : List Dec, eqDecs w l m = true ↔ nmDecs w l = nmDecs w m
 | [], [] => by simp [eqDecs, nmDecs]
 | [], _ :: _ => by simp [eqDecs, nmDecs]
 | _ :: _, [] => by simp [eqDecs, nmDecs]
 | t :: l, u :: m => by simp only [eqDecs, nmDecs, List.cons.injEq, Bool.and_eq_true, Qhm w t u, Qax w l m]
theorem Qhn (w : Bool) : ∀ t u : Fun, eqFun w t u = true ↔ nmFun w t = nmFun w u
 | .mk s a c, .mk s' a' c' => by
   simp only [eqFun, nmFun, Fun.mk.injEq, Bool.and_eq_true, decide_eq_true_eq, Qav w c c', Q6E]
   constructor <;> simp +contextual
theorem Qaz (w : Bool) : ∀ l m : List Fun, eqFuns w l m = true ↔ nmFuns w l = nmFuns w m
 | [], [] => by simp [eqFuns, nmFuns]
 | [], _ :: _ => by simp [eqFuns, nmFuns]
 | _ :: _, [] => by simp [eqFuns, nmFuns]
 | t :: l, u :: m => by simp only [eqFuns, nmFuns, List.cons.injEq, Bool.and_eq_true, Qhn w t u, Qaz w l m]
end
end Go.Am
namespace Go.Proofs.YtoahliipbclneaaGreat
open Go Go.Am
set_option linter.unusedVariables false
mutual
theorem Qew : ∀ t : Ty, ownTy t = nmTy t
 | .mk k n s l b => by simp only [ownTy, nmTy, Qg4 l]
theorem Qg4 : ∀ l : List Ty, ownTys l = nmTys l
 | [] => rfl
 | t :: l => by simp only [ownTys, nmTys, Qew t, Qg4 l]
end
theorem Qin (t u : Ty) : eqTy t u = true ↔ ownTy t = ownTy u := by rw [Qew, Qew]; exact Q9D t u
theorem Qim (p q : Place) : eqPl p q = true ↔ ownP p = ownP q := by
 cases p; cases q
 simp only [eqPl, ownP, Bool.and_eq_true, decide_eq_true_eq, beq_iff_eq, Qin, Place.mk.injEq, and_assoc]
theorem Q89 : ∀ t u : List Place, eqTab t u = true ↔ TabEq t u
 | [], [] => ⟨fun _ => rfl, fun _ => rfl⟩
 | [], q :: u => by simp [eqTab, TabEq]
 | p :: t, [] => by simp [eqTab, TabEq]
 | p :: t, q :: u => by
   simp only [eqTab, Bool.and_eq_true, Qim, Q89 t u, TabEq, List.map_cons, List.cons.injEq]
theorem QiS {P : List Dec} {D : Int} (h : rightN (nodesDecs false P) D = .zero) : RN (nodesDecs false P) := Q6y h
theorem QhH {d : Dec} (h : okD d = true) : RN (nodesDec false d) := by
 simp only [okD, decide_eq_true_eq] at h
 exact (QiS (Q55.1 h)).decs d (by simp)
end Go.Proofs.YtoahliipbclneaaGreat
namespace Go.Proofs.YtoahliipbclneaaGreat
open Go Go.Am
set_option linter.unusedVariables false
set_option maxRecDepth 4000
def kD11 : Dec := .mk 3 0 [111, 112, 116] 1 [⟨[78, 111, 110, 101], 0, false, .zero⟩, ⟨[83, 111, 109, 101], 0, true, .mk 1 0 [] [] true⟩] false [] true [] true
def kT11 : List Place := (addD startD kD11).1
def placeB (p : Place) : Bool := decide (p.name.length < 2^40) && (decide (p.data.length < 2^40) && (preTy p.ty).all fun u => decide (u.name.length < 2^40))
theorem QhK {p : Place} (h : placeB p = true) : PlaceOK p := by
 simp only [placeB, Bool.and_eq_true, decide_eq_true_eq, List.all_eq_true] at h
 refine ⟨h.1, h.2.1, ?_⟩
 intro n hn
 rw [Q1C] at hn
 obtain ⟨u, hu, rfl⟩ := List.mem_map.1 hn
 exact h.2.2 u hu
theorem QaN {t : List Place} (h : t.all placeB = true) : ∀ p ∈ t, PlaceOK p := fun p hp => QhK (List.all_eq_true.1 h p hp)
theorem kstart_ok : TabOK startD := ⟨by decide +kernel, QaN (by decide +kernel)⟩
theorem kT11_ok : TabOK kT11 := ⟨by decide +kernel, QaN (by decide +kernel)⟩
theorem QjM : (addD startD kD11).2 = .zero := by decide +kernel
theorem QfT : kT11.length = 8 := by decide +kernel
theorem Qhy : rightTD kT11 = true := by decide +kernel
def k11B (o : Option Place) : Bool := match o with
 | some p => decide (p.tag = 1) && decide (p.of_ = 2) && decide (p.vars = 1) && decide (p.ty.name = [45, 62])
 | none => false
theorem Qit : k11B (findD [83, 111, 109, 101] kT11) = true := by decide +kernel
theorem Q2N (s : St) : Ret (cw (.f Q2w) [] s) s (.bool true) := by
 obtain ⟨s1, e1, g1⟩ := Q3g s
 have hst : (startD.map Place.enc) ≠ [] := by simp [startD]
 obtain ⟨s2, w, e2, hw, g2⟩ := Q4o startD kD11 (by decide) kstart_ok.wide (by decide) (by decide) (fun c hc => by
  simp only [kD11, Dec.cons, List.mem_cons, List.not_mem_nil, or_false] at hc
  rcases hc with rfl | rfl
  ·exact Q5c (by simp) (by simp)
  ·exact Q5c (by simp) (by simp)) (.sl (startD.map Place.enc)) rfl s1
 obtain ⟨s3, e3, g3⟩ := QbF [83, 111, 109, 101] kT11 (by rw [QfT]; decide) kT11_ok.wide w hw s2
 obtain ⟨s4, e4, g4⟩ := Qap kT11 kT11_ok w hw s3
 have hf := Qit
 cases hfd : findD [83, 111, 109, 101] kT11 with
 | none => rw [hfd] at hf; cases hf
 | some p =>
   rw [hfd] at hf e3
   simp only [k11B, Bool.and_eq_true, decide_eq_true_eq] at hf
   obtain ⟨⟨⟨h1, h2⟩, h3⟩, h4⟩ := hf
   rw [QjM] at e2
   rw [Qhy] at e4
   have hlen : ((kT11.length : Nat) : Int) = 8 := by rw [QfT]; rfl
   have hw' : (Slot.val w).list? = some (kT11.map Place.enc) := hw
   refine ⟨s4, ?_, ((g1.trans g2).trans g3).trans g4⟩
   simp only [foundD, Place.enc, Place.cells_eq, h1, h2, h3, h4] at e3
   simp only [kD11, Dec.enc, Dec.cells_mk, List.map_cons, List.map_nil, ZN, Zq, Con.enc, Con.cells, Ty.zero, Ty.cells_mk, TBad.enc, TBad.cells, TBad.zero] at e2
   rw [QbM]
   simp only [go_sem, Nat.reduceAdd, Nat.reduceLeDiff, e1, e2, e3, e4, hw', List.length_map, hlen, Q92, decide_true]
theorem Q9I (d : Dec) (hs : d.size < 2^24) (hok : ∀ n ∈ nodesDecs false [d], n.ok) (s : St) : Ret (cw (.f Q2x) [.sl [d.enc]] s) s (.bool (okD d)) := by
 obtain ⟨s1, e1, g1⟩ := Q5z [d] false s (by simp only [Dec.sizes]; omega) hok
 have e0 := Qg2 (P := [d]) (pre := []) (suf := []) (d := d) (x := .val (.sl [d.enc])) rfl rfl
 simp only [List.length_nil, Nat.zero_add] at e0
 rw [show ((0 : Nat) : Int) = 0 from rfl, show ((1 : Nat) : Int) = 1 from rfl] at e0
 rw [QbN, Q4v]
 simp only [TBad.enc, TBad.cells, List.map_cons, List.map_nil, ZN] at e1
 have w1 : IntKind.i64.wrap 1 = 1 := by decide
 have h0 : decide ((0 : Int) < ((1 : Nat) : Int)) = true := by decide
 have h1 : decide ((1 : Int) < ((1 : Nat) : Int)) = false := by decide
 cases h : okD d with
 | true =>
   have h' : decide ((rightN (nodesDecs false [d]) (deepDecs [d] 0)).kind = 0) = true := h
   refine ⟨s1, ?_, g1⟩
   simp only [go_sem, Int.reduceAdd, List.length_singleton, h0, w1, e0, e1, Q4Z, Q78, h', Bool.not_true]
   rw [Q4v]
   simp only [go_sem, Int.reduceAdd, List.length_singleton, h1]
 | false =>
   have h' : decide ((rightN (nodesDecs false [d]) (deepDecs [d] 0)).kind = 0) = false := h
   refine ⟨s1, ?_, g1⟩
   simp only [go_sem, Int.reduceAdd, List.length_singleton, h0, w1, e0, e1, Q4Z, Q78, h', Bool.not_false]
end Go.Proofs.YtoahliipbclneaaGreat
namespace Go.Proofs.YtoahliipbclneaaGreat
open Go Go.Am
set_option linter.unusedVariables false
set_option maxRecDepth 4000
theorem TabEq.size {t u : List Place} (h : TabEq t u) {k : Nat} (hu : ∀ p ∈ u, p.ty.size < k) : ∀ p ∈ t, p.ty.size < k := by
 intro p hp
 have hm : ownP p ∈ u.map ownP := by rw [← h]; exact List.mem_map_of_mem hp
 obtain ⟨q, hq, e⟩ := List.mem_map.1 hm
 have h1 : (ownP p).ty.size = p.ty.size := Q28 p.ty
 have h2 : (ownP q).ty.size = q.ty.size := Q28 q.ty
 rw [← h1, ← e, h2]
 exact hu q hq
theorem TabEq.vars {t u : List Place} (h : TabEq t u) (hu : ∀ p ∈ u, 0 ≤ p.vars) : ∀ p ∈ t, 0 ≤ p.vars := by
 intro p hp
 have hm : ownP p ∈ u.map ownP := by rw [← h]; exact List.mem_map_of_mem hp
 obtain ⟨q, hq, e⟩ := List.mem_map.1 hm
 have h1 : (ownP p).vars = p.vars := rfl
 rw [← h1, ← e]
 exact hu q hq
end Go.Proofs.YtoahliipbclneaaGreat
namespace Go.Proofs.YtoahliipbclneaaGreat
open Go Go.Am
set_option linter.unusedVariables false
set_option maxRecDepth 4000
section
variable {H : Type}
def GPlace (b : Nat) (p : Place) : Prop := p.ty.size + 1 ≤ b ∧ PlaceOK p
def GPlaces (b : Nat) (l : List Place) : Prop := Place.sizes l ≤ b ∧ ∀ p ∈ l, PlaceOK p
theorem GPlaces.nil : GPlaces 0 [] := ⟨Nat.le_refl _, by simp⟩
theorem GPlaces.cons (m k : Nat) (t : Place) (L : List Place) (h : GPlace m t) (g : GPlaces k L) : GPlaces (m + k) (t :: L) := by
 refine ⟨by have := h.1; have := g.1; simp only [Place.sizes]; omega, fun p hp => ?_⟩
 rcases List.mem_cons.1 hp with rfl | hp
 ·exact h.2
 ·exact g.2 p hp
theorem QiT : (C.ti Zf).k = .struct [(0, Q1), (1, Q4)] := by kernel_rfl
theorem Qhi : ∀ (n : Nat) (d : DataW H) l, conv C.ti n Q5 d = some l → Rows.uptoBulk d < 2^30 → ∃ t : Place, l = t.cells ∧ GPlace (Rows.uptoBulk d) t
 | 0, d, l, h, _ => by simp [conv] at h
 | n + 1, d, l, h, hb => by
   obtain ⟨parts, ls, rfl, hf, rfl⟩ := QO QgV h
   rcases parts with _ | ⟨d1, _ | ⟨d2, _ | ⟨d3, _ | ⟨d4, _ | ⟨d5, _ | ⟨d6, _ | _⟩⟩⟩⟩⟩⟩ <;> rcases ls with _ | ⟨l1, _ | ⟨l2, _ | ⟨l3, _ | ⟨l4, _ | ⟨l5, _ | ⟨l6, _ | _⟩⟩⟩⟩⟩⟩ <;> simp only [Fields, and_false] at hf
   obtain ⟨c1, c2, c3, c4, c5, c6, -⟩ := hf
   simp only [Rows.uptoBulk, Rows.uptoBulkAll] at hb ⊢
   obtain ⟨nm, rfl, rfl⟩ := Q1P Qw c1
   obtain ⟨data, rfl, rfl⟩ := Q1P Qw c2
   obtain ⟨tag, rfl, rfl, w3⟩ := QU Q0a c3
   obtain ⟨of_, rfl, rfl, w4⟩ := QU Q0a c4
   obtain ⟨has, rfl, rfl⟩ := Qcr QdJ c5
   simp only [Rows.uptoBulk] at hb ⊢
   cases n with
   | zero => simp [conv] at c6
   | succ n =>
     obtain ⟨parts, ls, rfl, hf, rfl⟩ := QO QiT c6
     rcases parts with _ | ⟨e1, _ | ⟨e2, _ | _⟩⟩ <;> rcases ls with _ | ⟨m1, _ | ⟨m2, _ | _⟩⟩ <;> simp only [Fields, and_false] at hf
     obtain ⟨c7, c8, -⟩ := hf
     simp only [Rows.uptoBulk, Rows.uptoBulkAll] at hb ⊢
     obtain ⟨vars, rfl, rfl, w7⟩ := QU Q0a c7
     simp only [Rows.uptoBulk] at hb ⊢
     obtain ⟨t, rfl, ht⟩ := QdV n e2 m2 c8 (by omega)
     exact ⟨⟨nm, data, tag, of_, has, vars, t⟩, by simp [Place.cells], by have := ht.1; simp only []; omega, by simp only []; omega, by simp only []; omega, ht.2 0⟩
theorem Qgk (n : Nat) (d : DataW H) (l : List AV) (h : conv C.ti n QA d = some l) (hb : Rows.uptoBulk d < 2^30) : ∃ L b, l = [encS b (L.map Place.enc)] ∧ GPlaces (Rows.uptoBulk d) L := by
 cases n with
 | zero => simp [conv] at h
 | succ n =>
   obtain ⟨L, b, k, h1, h2, h3⟩ := Q0u Qcg Q90 GPlaces.nil GPlaces.cons (fun d l h hb => Qhi n d l h hb) d l h hb
   exact ⟨L, b, h1, by have := h2.1; omega, h2.2⟩
end
end Go.Proofs.YtoahliipbclneaaGreat
namespace Go.Proofs.YtoahliipbclneaaGreat
open Go Go.Am
set_option linter.unusedVariables false
set_option maxRecDepth 4000
theorem QeJ {t : List Place} (h : rightTR t = true) (hok : ∀ d ∈ decsR t, okD d = true → DecOK d) : ∀ p ∈ t, 0 ≤ p.vars := by
 simp only [rightTR, Bool.and_eq_true, List.all_eq_true] at h
 obtain ⟨-, h1, -, h3⟩ := h
 obtain ⟨q1, q2, q3⟩ := Qjb (decsR t) startD startD rfl Qfs fun d hd => hok d hd (h1 d hd)
 exact TabEq.vars (((Q89 _ _).1 h3).trans q2.symm) q3
theorem Q7K (t : List Place) (hs : Place.sizes t ≤ 2^20) (hok : ∀ p ∈ t, PlaceOK p) (v : AV) (hv : (Slot.val v).list? = some (t.map Place.enc)) (d : Dec) (hd : d.size ≤ 2^20) (hdo : ∀ n ∈ nodesDecs false [d], n.ok) (s : St) : Ret (cw (.f Q2K) [v, d.enc] s) s (.bool true) := by
 obtain ⟨s1, e1, g1⟩ := Q9I d (by omega) hdo s
 have hlen := Place.len_sizes t
 rw [Q8Q]
 simp only [Dec.enc, Dec.cells_eq] at e1
 cases h : okD d with
 | false =>
   rw [h] at e1
   obtain ⟨s5, e5, g5⟩ := Q2N s1
   refine ⟨s5, ?_, g1.trans g5⟩
   simp only [go_sem, Nat.reduceAdd, Nat.reduceLeDiff, Dec.enc, Dec.cells_eq, List.map_cons, List.map_nil, e1, Bool.not_false, e5]
 | true =>
   rw [h] at e1
   obtain ⟨s2, e2, g2⟩ := Q9Z t hs hok v hv s1
   cases hr : rightTR t with
   | false =>
     rw [hr] at e2
     obtain ⟨s5, e5, g5⟩ := Q2N s2
     refine ⟨s5, ?_, (g1.trans g2).trans g5⟩
     simp only [go_sem, Nat.reduceAdd, Nat.reduceLeDiff, Dec.enc, Dec.cells_eq, List.map_cons, List.map_nil, e1, Bool.not_true, Bool.not_false, e2, e5]
   | true =>
     rw [hr] at e2
     have hvars := QeJ hr fun q _ hq => QdS (QhH hq)
     have hF := Qg1 (by omega) h
     have hFR := Qeu (by omega) h
     have hcl : d.cons.length ≤ 2^20 := by
      have h1 := Con.len_sizes d.cons
      have h2 : Con.sizes d.cons ≤ d.size := by cases d; simp only [Dec.size, Dec.cons]; omega
      omega
     have hfit : TabFit t := ⟨by omega, fun p hp => by have := Place.mem_sizes hp; omega⟩
     obtain ⟨s3, w3, e3, h3, g3⟩ := Q4o t d (by omega) (fun p hp => Q1Z _ (by have := Place.mem_sizes hp; omega)) hF.1 (by omega) hF.2 v hv s2
     obtain ⟨s4, w4, e4, h4, g4⟩ := Q6T t d v hfit hv hFR.1 (by omega) (by omega) hFR.2 s3
     obtain ⟨q1, q2, q3⟩ := Qh4 (TabEq.own t |>.trans (TabEq.own t).symm) hvars d (QdS (QhH h))
     have hl := q2.len
     have hl2 := QdM t d
     have e5 := Q6e (addD t d).1 (addR t d).1 w3 w4 h3 h4 (by omega) (q2.size fun p hp => Nat.lt_trans (QdL t d hFR hfit.2 p hp) (by decide)) s4
     rw [(Q89 _ _).2 q2] at e5
     obtain ⟨s6, e6, g6⟩ := Q2N s4
     rw [← q1] at e4
     refine ⟨s6, ?_, (((g1.trans g2).trans g3).trans g4).trans g6⟩
     simp only [TBad.enc, TBad.cells, Dec.enc, Dec.cells_eq] at e3 e4
     simp only [go_sem, Nat.reduceAdd, Nat.reduceLeDiff, Dec.enc, Dec.cells_eq, List.map_cons, List.map_nil, e1, e2, Bool.not_true, e3, e4, e5, e6, TBad.cells, Q92]
theorem Q8k {k0 k1 : Nat} (t : List Place) (b : Bool) (g : GPlaces k0 t) (d : Dec) (gd : GDec k1 d) (hb : k0 + (k1 + 0) ≤ 1048576) : Ret (cw (.f Q2K) [encS b (t.map Place.enc), d.enc] st0) st0 (.bool true) :=
 Q7K t (by have := g.1; omega) g.2 _ (Qg _ _) d (by have := gd.1; omega) (fun n hn => gd.2 false n (by simpa only [nodesDecs, List.append_nil] using hn)) st0
end Go.Proofs.YtoahliipbclneaaGreat