/- A part of the proof: PDecs, SDecl6, SFit, SDecl7, PRN, PBare, PTab, PBare3, PBare2, PBare4, PGrow, PGrow2. -/
import Derived.Test.YtoahliipbclneaaM8
import Derived.Test.YtoahliipbclneaaM9
import Derived.Test.YtoahliipbclneaaM10
import Derived.Test.YtoahliipbclneaaM11
set_option linter.unusedVariables false
set_option linter.unusedSimpArgs false
namespace Go.Proofs.Ytoahliipbclneaa
open Go Go.Am
set_option linter.unusedVariables false
def conD (p : Place) : Con := ⟨p.name, 0, p.has, bif p.has && decide ((p.ty.args.length : Int) = 2) then p.ty.args.headD .zero else .zero⟩
def exnDec (c : Con) : Dec := .mk 4 0 [] 0 [c] false [] true [] true
def dataDec (nm : Str) (p : Int) (cs : List Con) : Dec := .mk 3 0 nm p cs false [] true [] true
def mkD (x : Place) : Dec := bif decide (x.data = sExn) then exnDec (conD x) else dataDec x.data x.vars [conD x]
def addCon (d : Dec) (c : Con) : Dec := .mk d.kind d.at_ d.name d.params (d.cons ++ [c]) d.nb d.case d.cb d.funs d.fb
def joins (x : Place) (d : Dec) : Bool := !decide (x.data = sExn) && decide (d.kind = 3) && decide (d.name = x.data)
def stepD (p : List Dec) (x : Place) : List Dec := match p.getLast? with
 | some d => bif joins x d then p.dropLast ++ [addCon d (conD x)] else p ++ [mkD x]
 | none => p ++ [mkD x]
def decsD (t : List Place) : List Dec := (t.drop 6).foldl stepD []
theorem Q68 (x : Place) : stepD [] x = [mkD x] := rfl
theorem Q3X (p : List Dec) (d : Dec) (x : Place) : stepD (p ++ [d]) x = bif joins x d then p ++ [addCon d (conD x)] else p ++ [d] ++ [mkD x] := by
 simp only [stepD, List.getLast?_append, List.getLast?_singleton, Option.some_or, List.dropLast_concat]
def eqPl (p q : Place) : Bool := decide (p.name = q.name) && decide (p.data = q.data) && decide (p.tag = q.tag) && decide (p.of_ = q.of_) && (p.has == q.has) && decide (p.vars = q.vars) && eqTy p.ty q.ty
def eqTab : List Place → List Place → Bool
 | [], [] => true
 | p :: t, q :: u => eqPl p q && eqTab t u
 | _, _ => false
def okD (d : Dec) : Bool := decide ((rightN (nodesDecs false [d]) (deepDecs [d] 0)).kind = 0)
def rightTD (t : List Place) : Bool := !decide ((t.length : Int) < 6) && ((decsD t).all okD && (decide ((ofD (decsD t) startD).2.kind = 0) && eqTab t (ofD (decsD t) startD).1))
theorem Q9H : ∀ {t u : List Place}, eqTab t u = true → t.length = u.length
 | [], [], _ => rfl
 | p :: t, q :: u, h => by
   simp only [eqTab, Bool.and_eq_true] at h
   simp only [List.length_cons, Q9H h.2]
 | [], q :: u, h => by cases h
 | p :: t, [], h => by cases h
def formD (d : Dec) : Prop := d.nb = false ∧ d.case = [] ∧ d.cb = true ∧ d.funs = [] ∧ d.fb = true
theorem Qcy (x : Place) : formD (mkD x) := by
 unfold mkD
 cases decide (x.data = sExn) <;> exact ⟨rfl, rfl, rfl, rfl, rfl⟩
theorem Qb6 {d : Dec} (h : formD d) (c : Con) : formD (addCon d c) := h
def PlaceOK (p : Place) : Prop := p.name.length < 2^40 ∧ p.data.length < 2^40 ∧ NamesTy p.ty
def Place.sizes : List Place → Nat
 | [] => 0
 | p :: t => p.ty.size + 1 + Place.sizes t
theorem Place.len_sizes : ∀ t : List Place, t.length ≤ Place.sizes t
 | [] => Nat.le_refl _
 | p :: t => by have := Place.len_sizes t; simp only [Place.sizes, List.length_cons]; omega
theorem Place.mem_sizes : ∀ {t : List Place} {p : Place}, p ∈ t → p.ty.size + 1 ≤ Place.sizes t
 | x :: l, t, h => by
   simp only [Place.sizes]
   rcases List.mem_cons.1 h with rfl | h
   ·omega
   ·have := Place.mem_sizes h; omega
theorem Place.sizes_app (a b : List Place) : Place.sizes (a ++ b) = Place.sizes a + Place.sizes b := by
 induction a with
 | nil => simp [Place.sizes]
 | cons p a ih => simp only [List.cons_append, Place.sizes, ih]; omega
theorem Place.sizes_drop (t : List Place) (n : Nat) : Place.sizes (t.drop n) ≤ Place.sizes t := by
 have := Place.sizes_app (t.take n) (t.drop n)
 rw [List.take_append_drop] at this; omega
def DGood (d : Dec) : Prop := formD d ∧ d.name.length < 2^40 ∧ ∀ c ∈ d.cons, c.name.length < 2^40 ∧ NamesTy c.arg
theorem Qdg : NamesTy .zero := by
 intro n hn
 simp only [Ty.zero, nodesTy, nodesTys, List.mem_cons, List.not_mem_nil, or_false] at hn
 subst hn
 simp [TNode.ok, Ty.name]
theorem QaU (p : Place) : (conD p).arg = .zero ∨ (conD p).arg ∈ p.ty.args := by
 unfold conD
 cases p.has with
 | false => exact .inl rfl
 | true =>
   by_cases h : (p.ty.args.length : Int) = 2
   ·simp only [h, decide_true, Bool.and_self, cond_true]
    cases ha : p.ty.args with
    | nil => rw [ha] at h; simp at h
    | cons a l => exact .inr (by simp)
   ·left; simp only [h, decide_false, Bool.and_false, cond_false]
theorem QeY {p : Place} {c : Con} (h : c.arg = .zero ∨ c.arg ∈ p.ty.args) : c.size ≤ p.ty.size + 1 := by
 have h1 : 1 ≤ p.ty.size := by cases p.ty; simp only [Ty.size]; omega
 simp only [Con.size]
 rcases h with h | h
 ·rw [h]; simp only [Ty.zero, Ty.size, Ty.sizes]; omega
 ·have := Ty.mem_sizes h
  have : p.ty.size = Ty.sizes p.ty.args + 1 := by cases p.ty; simp only [Ty.size, Ty.args]
  omega
theorem Q9x (p : Place) : (conD p).size ≤ p.ty.size + 1 := QeY (QaU p)
theorem QdL {p : Place} {c : Con} (h : NamesTy p.ty) (e : c.arg = .zero ∨ c.arg ∈ p.ty.args) : NamesTy c.arg := by
 rcases e with e | e
 ·rw [e]; exact Qdg
 ·generalize c.arg = u at e
  cases ht : p.ty with
  | mk k n s l b => rw [ht] at e h; exact h.arg e
theorem Q7U {p : Place} (h : NamesTy p.ty) : NamesTy (conD p).arg := QdL h (QaU p)
theorem QcC {p : Place} (h : PlaceOK p) : DGood (mkD p) := by
 obtain ⟨h1, h2, h3⟩ := h
 refine ⟨Qcy p, ?_, fun c hc => ?_⟩
 ·unfold mkD; cases decide (p.data = sExn)
  ·exact h2
  ·show ([] : Str).length < _; decide
 ·have : c = conD p := by
   revert hc; unfold mkD; cases decide (p.data = sExn) <;> exact fun hc => by simpa [exnDec, dataDec, Dec.cons] using hc
  subst this
  exact ⟨h1, Q7U h3⟩
theorem Qfe {d : Dec} {p : Place} (hd : DGood d) (h : PlaceOK p) : DGood (addCon d (conD p)) := by
 refine ⟨Qb6 hd.1 _, hd.2.1, fun c hc => ?_⟩
 simp only [addCon, Dec.cons, List.mem_append, List.mem_singleton] at hc
 rcases hc with hc | rfl
 ·exact hd.2.2 c hc
 ·exact ⟨h.1, Q7U h.2.2⟩
theorem Q9N : ∀ (t : List Place) (p : List Dec), (∀ x ∈ t, PlaceOK x) → (∀ d ∈ p, DGood d) → ∀ d ∈ t.foldl stepD p, DGood d
 | [], p, _, hp => hp
 | x :: t, p, ht, hp => by
   rw [List.foldl_cons]
   refine Q9N t _ (fun y hy => ht y (List.mem_cons_of_mem _ hy)) fun d hd => ?_
   have hx := ht x List.mem_cons_self
   rcases List.eq_nil_or_concat p with rfl | ⟨q, e, rfl⟩
   ·simp only [Q68, List.mem_singleton] at hd; subst hd; exact QcC hx
   ·rw [List.concat_eq_append] at *
    rw [Q3X] at hd
    cases hj : joins x e with
    | true =>
      rw [hj, cond_true, List.mem_append, List.mem_singleton] at hd
      rcases hd with hd | rfl
      ·exact hp d (List.mem_append_left _ hd)
      ·exact Qfe (hp e (by simp)) hx
    | false =>
      rw [hj, cond_false, List.mem_append, List.mem_singleton] at hd
      rcases hd with hd | rfl
      ·exact hp d hd
      ·exact QcC hx
theorem Q95 (a b : List Con) : Con.sizes (a ++ b) = Con.sizes a + Con.sizes b := by
 induction a with
 | nil => simp [Con.sizes]
 | cons p a ih => simp only [List.cons_append, Con.sizes, ih]; omega
theorem Q57 (a b : List Dec) : Dec.sizes (a ++ b) = Dec.sizes a + Dec.sizes b := by
 induction a with
 | nil => simp [Dec.sizes]
 | cons p a ih => simp only [List.cons_append, Dec.sizes, ih]; omega
theorem QbV (d : Dec) (c : Con) : (addCon d c).size = d.size + c.size := by
 cases d
 simp only [addCon, Dec.size, Dec.cons, Dec.case, Dec.funs, Q95, Con.sizes]; omega
theorem Qft (p : Place) : (mkD p).size ≤ p.ty.size + 2 := by
 have := Q9x p
 unfold mkD
 cases decide (p.data = sExn) <;> simp only [cond_true, cond_false, exnDec, dataDec, Dec.size, Con.sizes, Case.sizes, Fun.sizes] <;> omega
theorem Qdq (p : List Dec) (x : Place) : Dec.sizes (stepD p x) ≤ Dec.sizes p + (x.ty.size + 2) := by
 have h1 := Qft x
 have h2 := Q9x x
 rcases List.eq_nil_or_concat p with rfl | ⟨q, e, rfl⟩
 ·simp only [Q68, Dec.sizes]; omega
 ·rw [List.concat_eq_append, Q3X]
  cases joins x e with
  | true => simp only [cond_true, Q57, Dec.sizes, QbV]; omega
  | false => simp only [cond_false, Q57, Dec.sizes]; omega
theorem Q9O (f : List Dec → Place → List Dec) (hf : ∀ p x, Dec.sizes (f p x) ≤ Dec.sizes p + (x.ty.size + 2)) : ∀ (t : List Place) (p : List Dec), 2 * Dec.sizes (t.foldl f p) ≤ 2 * Dec.sizes p + 3 * Place.sizes t
 | [], p => by simp [Place.sizes]
 | x :: t, p => by
   have h1 := Q9O f hf t (f p x)
   have h2 := hf p x
   have h3 : 1 ≤ x.ty.size := by cases x.ty; simp only [Ty.size]; omega
   rw [List.foldl_cons]
   simp only [Place.sizes]; omega
theorem Qd6 (t : List Place) : 2 * Dec.sizes (decsD t) ≤ 3 * Place.sizes t := by
 have h1 := Q9O _ Qdq (t.drop 6) []
 have h2 := Place.sizes_drop t 6
 simp only [Dec.sizes] at h1
 unfold decsD; omega
theorem Qd5 {t : List Place} (h : ∀ p ∈ t, PlaceOK p) : ∀ d ∈ decsD t, DGood d :=
 Q9N _ _ (fun x hx => h x (List.mem_of_mem_drop hx)) (by simp)
theorem Qcu : ∀ (l : List Con), (∀ c ∈ l, c.name.length < 2^40 ∧ NamesTy c.arg) → ∀ n ∈ nodesCons l, n.ok
 | [], _, n, hn => by cases hn
 | c :: l, h, n, hn => by
   simp only [nodesCons, List.mem_append] at hn
   rcases hn with hn | hn
   ·obtain ⟨h1, h2⟩ := h c List.mem_cons_self
    simp only [nodesCon, List.mem_cons] at hn
    rcases hn with rfl | hn
    ·exact h1
    ·cases hc : c.has with
     | false => rw [hc] at hn; cases hn
     | true =>
       rw [hc, cond_true, Q0A] at hn
       obtain ⟨u, hu, rfl⟩ := List.mem_map.1 hn
       exact h2.pre u hu
   ·exact Qcu l (fun c hc => h c (List.mem_cons_of_mem _ hc)) n hn
theorem Qgv {d : Dec} (h : DGood d) : ∀ n ∈ nodesDecs false [d], n.ok := by
 obtain ⟨⟨h1, h2, h3, h4, h5⟩, h6, h7⟩ := h
 cases d with
 | mk k a s p l lb c cb f fb =>
   simp only [Dec.case, Dec.funs] at h2 h4
   subst h2 h4
   intro n hn
   simp only [nodesDecs, nodesDec, nodesCases, nodesFuns, List.nil_append, List.append_nil, List.mem_cons] at hn
   rcases hn with rfl | hn
   ·exact h6
   ·exact Qcu l h7 n hn
end Go.Proofs.Ytoahliipbclneaa
namespace Go.Proofs.Ytoahliipbclneaa
open Go Go.Am
set_option linter.unusedVariables false
set_option maxRecDepth 4000
theorem Q5a (p : Place) (s : St) : cw (.f Q0j) [p.enc] s = some (.ret (.val (conD p).enc), s) := by
 obtain ⟨nm, data, tag, of_, has, vars, k, n, tn, l, b⟩ := p
 rw [Q6E]
 cases has with
 | false => simp only [go_sem, Nat.reduceAdd, Nat.reduceLeDiff, Place.enc, Place.cells_eq, Ty.kind, Ty.n, Ty.name, Ty.args, Ty.nl, conD, Con.enc, Con.cells, Bool.false_and, Ty.zero]
 | true =>
   by_cases h : (l.length : Int) = 2
   ·cases l with
    | nil => simp at h
    | cons a l =>
      have f1 : ixS 4 (.val (encS b ((a :: l).map Ty.enc))) (.val (.int .i64 0)) = some (.val (.cp a.cells)) := Q1v (n := 0) (v := a.enc) (Qk _ _) rfl (Ty.cells_len a) (by decide)
      simp only [List.map_cons, Qe3] at f1
      have h' : ((l.length + 1 : Nat) : Int) = 2 := h
      simp only [go_sem, Nat.reduceAdd, Nat.reduceLeDiff, Place.enc, Place.cells_eq, Ty.kind, Ty.n, Ty.name, Ty.args, Ty.nl, conD, Con.enc, Con.cells, Bool.true_and, decide_true, cond_true, List.map_cons, f1, List.headD_cons, List.length_map, List.length_cons, h', Ty.cells_eq]
   ·simp only [go_sem, Nat.reduceAdd, Nat.reduceLeDiff, Place.enc, Place.cells_eq, Ty.kind, Ty.n, Ty.name, Ty.args, Ty.nl, conD, Con.enc, Con.cells, Bool.true_and, decide_eq_false h, cond_false, List.length_map, Ty.zero]
    simp only [go_sem, h, decide_false, cond_false]
def dcell (q : Dec × Nat) : AV := .agg [.int .i64 q.1.kind, .int .i64 q.1.at_, .str q.1.name, .int .i64 q.1.params, .vs q.2 Qi 7 0 q.1.cons.length, .nils, .nils]
theorem QdY (q : Dec × Nat) : (dcell q).cells.length = 7 := rfl
theorem Q0V (ps : List (Dec × Nat)) : ∀ v ∈ ps.map dcell, v.cells.length = 7 := fun v hv => by
 obtain ⟨q, _, rfl⟩ := List.mem_map.1 hv
 exact QdY q
structure DA (s0 s : St) (x : Slot) (ps : List (Dec × Nat)) : Prop where
 grew : Grew s0 s
 at_ : (ps = [] ∧ x = .val .nils) ∨ ps ≠ [] ∧ ∃ loc, x = .val (.vs loc Qf 7 0 ps.length) ∧ s0.locs.length ≤ loc ∧ (∀ q ∈ ps, q.2 ≠ loc) ∧ Holds s loc (ps.map dcell)
 ge : ∀ q ∈ ps, s0.locs.length ≤ q.2
 nd : (ps.map Prod.snd).Nodup
 hold : ∀ q ∈ ps, Holds s q.2 (q.1.cons.map Con.enc)
 form : ∀ q ∈ ps, formD q.1
theorem Q9y (l : List Con) : ∀ v ∈ l.map Con.enc, v.cells.length = 7 := fun v hv => by
 obtain ⟨c, _, rfl⟩ := List.mem_map.1 hv
 exact Con.cells_len c
theorem DA.push {s0 s : St} {x : Slot} {ps : List (Dec × Nat)} (h : DA s0 s x ps) (d : Dec) (l : Nat) (hd : Holds s l (d.cons.map Con.enc)) (hl : s0.locs.length ≤ l) (hn : ∀ q ∈ ps, q.2 ≠ l) (hx : ∀ loc, x = .val (.vs loc Qf 7 0 ps.length) → loc ≠ l) (hf : formD d) (hb : ps.length < 2^28) :
  ∃ x' s', appendV Qf (C.ti Qf) s x (.full [dcell (d, l)]) = some (x', s') ∧ DA s0 s' x' (ps ++ [(d, l)]) := by
 have hnd : ((ps ++ [(d, l)]).map Prod.snd).Nodup := by
  rw [List.map_append, List.nodup_append]
  refine ⟨h.nd, by simp, fun a ha b hb => ?_⟩
  simp only [List.map_cons, List.map_nil, List.mem_singleton] at hb
  subst hb
  obtain ⟨q, hq, rfl⟩ := List.mem_map.1 ha
  exact hn q hq
 rcases h.at_ with ⟨rfl, rfl⟩ | ⟨hps, loc, rfl, h1, h2, h3⟩
 ·have e1 : appendV Qf (C.ti Qf) s (.val .nils) (.full [dcell (d, l)]) = some (.val (.vs s.locs.length Qf 7 0 1), s.addLoc (.var ((flatL [dcell (d, l)]).map .val))) := by
   unfold appendV
   simp only [Q8f, Zx (sz := (C.ti Qf).size) (l := [dcell (d, l)]) (by rw [Zq]; exact Q0V [(d, l)]) (by rw [Zq]; decide), cond_true]
   simp only [newV, Q6C, Zq]
   rw [if_pos ⟨by simp, by simp⟩]; rfl
  have g1 : Grew s (s.addLoc (.var ((flatL [dcell (d, l)]).map .val))) := (Grew.refl s).addLoc _
  refine ⟨_, _, e1, ⟨h.grew.trans g1, .inr ⟨by simp, s.locs.length, rfl, h.grew.locsLe, ?_, Q9R s [dcell (d, l)]⟩, ?_, hnd, ?_, ?_⟩⟩
  ·intro q hq
   simp only [List.nil_append, List.mem_singleton] at hq; subst hq
   exact Nat.ne_of_lt hd.lt
  ·intro q hq
   simp only [List.nil_append, List.mem_singleton] at hq; subst hq; exact hl
  ·intro q hq
   simp only [List.nil_append, List.mem_singleton] at hq; subst hq; exact hd.move g1
  ·intro q hq
   simp only [List.nil_append, List.mem_singleton] at hq; subst hq; exact hf
 ·have e1 := Q7O (e := Qf) (t := C.ti Qf) (y := .full [dcell (d, l)]) h3 (by rw [Zq]; exact Q0V ps) rfl (by simp) (by rw [Zq]; exact Q0V [(d, l)]) (by rw [Zq]; decide) (by rw [Q6C, List.length_map, List.length_singleton]; omega) (by rw [List.length_map, List.length_singleton]; omega)
  rw [Zq, List.length_map, List.length_singleton] at e1
  have hloc := hx loc rfl
  refine ⟨_, _, e1, ⟨Q9Q h.grew h1 _, .inr ⟨by simp, s.locs.length, by rw [List.length_append, List.length_singleton], h.grew.locsLe, ?_, ?_⟩, ?_, hnd, ?_, ?_⟩⟩
  ·intro q hq
   rcases List.mem_append.1 hq with hq | hq
   ·exact Nat.ne_of_lt (h.hold q hq).lt
   ·simp only [List.mem_singleton] at hq; subst hq; exact Nat.ne_of_lt hd.lt
  ·have := Q8d s loc (ps.map dcell ++ [dcell (d, l)])
   rw [List.map_append]; exact this
  ·intro q hq
   rcases List.mem_append.1 hq with hq | hq
   ·exact h.ge q hq
   ·simp only [List.mem_singleton] at hq; subst hq; exact hl
  ·intro q hq
   rcases List.mem_append.1 hq with hq | hq
   ·exact (h.hold q hq).turn (h2 q hq) _
   ·simp only [List.mem_singleton] at hq; subst hq; exact hd.turn (Ne.symm hloc) _
  ·intro q hq
   rcases List.mem_append.1 hq with hq | hq
   ·exact h.form q hq
   ·simp only [List.mem_singleton] at hq; subst hq; exact hf
theorem DA.join {s0 s : St} {loc : Nat} {ps : List (Dec × Nat)} {d : Dec} {l : Nat} (h : DA s0 s (.val (.vs loc Qf 7 0 (ps ++ [(d, l)]).length)) (ps ++ [(d, l)])) (c : Con) (hb : d.cons.length < 2^28) :
  ∃ s1 s2, appendV Qi (C.ti Qi) s (.val (.vs l Qi 7 0 d.cons.length)) (.full [c.enc]) = some (.val (.vs s.locs.length Qi 7 0 (d.cons.length + 1)), s1) ∧
    stV s1 (.val (.vp loc (ps.length * 7 + 4))) [.val (.vs s.locs.length Qi 7 0 (d.cons.length + 1))] = some s2 ∧ DA s0 s2 (.val (.vs loc Qf 7 0 (ps ++ [(addCon d c, s.locs.length)]).length)) (ps ++ [(addCon d c, s.locs.length)]) := by
 have hm : (d, l) ∈ ps ++ [(d, l)] := by simp
 obtain ⟨loc', hx, h1, h2, h3⟩ : ∃ loc', Slot.val (.vs loc Qf 7 0 (ps ++ [(d, l)]).length) = .val (.vs loc' Qf 7 0 (ps ++ [(d, l)]).length) ∧ s0.locs.length ≤ loc' ∧ (∀ q ∈ ps ++ [(d, l)], q.2 ≠ loc') ∧ Holds s loc' ((ps ++ [(d, l)]).map dcell) := by
  rcases h.at_ with ⟨h, -⟩ | h
  ·simp at h
  ·exact h.2
 obtain rfl : loc = loc' := by injection hx with hx; injection hx
 have hd : Holds s l (d.cons.map Con.enc) := h.hold _ hm
 have e1 := Q7O (e := Qi) (t := C.ti Qi) (y := .full [c.enc]) hd (by rw [Z9]; exact Q9y _) rfl (by simp) (by rw [Z9]; exact Q9y [c]) (by rw [Z9]; decide) (by rw [Q6B, List.length_map, List.length_singleton]; omega) (by rw [List.length_map, List.length_singleton]; omega)
 rw [Z9, List.length_map, List.length_singleton] at e1
 have hne : loc ≠ l := Ne.symm (h2 _ hm)
 have hp := h3.turn hne (.var ((flatL (d.cons.map Con.enc ++ [c.enc])).map .val))
 have hlt := h3.lt
 have hpl : (flatL (ps.map dcell)).length = ps.length * 7 := by rw [Q0L (Q0V ps), List.length_map]
 have hcells : flatL ((ps ++ [(d, l)]).map dcell) = flatL (ps.map dcell) ++ [.int .i64 d.kind, .int .i64 d.at_, .str d.name, .int .i64 d.params, .vs l Qi 7 0 d.cons.length, .nils, .nils] := by
  rw [List.map_append, Q3Q]; rfl
 have hcells2 : flatL ((ps ++ [(addCon d c, s.locs.length)]).map dcell) = flatL (ps.map dcell) ++ [.int .i64 d.kind, .int .i64 d.at_, .str d.name, .int .i64 d.params, .vs s.locs.length Qi 7 0 (d.cons.length + 1), .nils, .nils] := by
  rw [List.map_append, Q3Q]
  simp [dcell, addCon, flatL, Dec.kind, Dec.at_, Dec.name, Dec.params, Dec.cons]
  rfl
 have e2 : stV (s.turn l (.var ((flatL (d.cons.map Con.enc ++ [c.enc])).map .val))) (.val (.vp loc (ps.length * 7 + 4))) [.val (.vs s.locs.length Qi 7 0 (d.cons.length + 1))] = some { s.turn l (.var ((flatL (d.cons.map Con.enc ++ [c.enc])).map .val)) with locs := (s.turn l (.var ((flatL (d.cons.map Con.enc ++ [c.enc])).map .val))).locs.set loc (.var ((flatL ((ps ++ [(addCon d c, s.locs.length)]).map dcell)).map .val)) } := by
  unfold Holds at hp
  rw [QeG hp (by rw [List.length_map, hcells, List.length_append, hpl]; simp only [List.length_cons, List.length_nil]; omega), hcells, hcells2]
  simp only [List.map_append, List.map_cons, List.map_nil, List.length_singleton]
  rw [List.take_append, List.take_of_length_le (by simp [hpl]), List.drop_append, List.drop_of_length_le (by simp only [List.length_map, hpl]; omega)]
  simp only [List.length_map, hpl]
  rw [show ps.length * 7 + 4 - ps.length * 7 = 4 by omega, show ps.length * 7 + 4 + 1 - ps.length * 7 = 5 by omega]
  simp only [List.take_succ_cons, List.take_zero, List.drop_succ_cons, List.drop_zero, List.nil_append, List.append_assoc, List.cons_append]
 refine ⟨_, _, e1, e2, ?_⟩
 have hnew := Q8d s l (d.cons.map Con.enc ++ [c.enc])
 have hlt2 : loc < (s.turn l (.var ((flatL (d.cons.map Con.enc ++ [c.enc])).map .val))).locs.length := by rw [Qfm]; omega
 have hsub : ∀ q ∈ ps, q ∈ ps ++ [(d, l)] := fun q hq => List.mem_append_left _ hq
 have hnd := h.nd
 rw [List.map_append, List.nodup_append] at hnd
 have hql : ∀ q ∈ ps, q.2 ≠ l := fun q hq => hnd.2.2 q.2 (List.mem_map_of_mem hq) l (by simp)
 refine ⟨?_, .inr ⟨by simp, loc, rfl, h1, ?_, ?_⟩, ?_, ?_, ?_, ?_⟩
 ·exact ((Moves.grew [] [] (Q9Q h.grew (h.ge _ hm) _)).setLoc (.inr h1) _).toGrew
 ·intro q hq
  rcases List.mem_append.1 hq with hq | hq
  ·exact h2 q (hsub q hq)
  ·simp only [List.mem_singleton] at hq; subst hq; exact Nat.ne_of_gt hlt
 ·unfold Holds; simp only []; rw [List.getElem?_set_self hlt2]
 ·intro q hq
  rcases List.mem_append.1 hq with hq | hq
  ·exact h.ge q (hsub q hq)
  ·simp only [List.mem_singleton] at hq; subst hq; exact h.grew.locsLe
 ·rw [List.map_append, List.nodup_append]
  refine ⟨hnd.1, by simp, fun a ha b hb => ?_⟩
  simp only [List.map_cons, List.map_nil, List.mem_singleton] at hb
  subst hb
  obtain ⟨q, hq, rfl⟩ := List.mem_map.1 ha
  exact Nat.ne_of_lt (h.hold q (hsub q hq)).lt
 ·intro q hq
  rcases List.mem_append.1 hq with hq | hq
  ·exact ((h.hold q (hsub q hq)).turn (hql q hq) _).put (h2 q (hsub q hq)) _
  ·simp only [List.mem_singleton] at hq; subst hq
   refine Holds.put ?_ (Nat.ne_of_gt hlt) _
   simp only [addCon, Dec.cons, List.map_append, List.map_cons, List.map_nil]
   exact hnew
 ·intro q hq
  rcases List.mem_append.1 hq with hq | hq
  ·exact h.form q (hsub q hq)
  ·simp only [List.mem_singleton] at hq; subst hq; exact Qb6 (h.form _ hm) c
def dslv (q : Dec × Nat) : AV := .agg [.int .i64 q.1.kind, .int .i64 q.1.at_, .str q.1.name, .int .i64 q.1.params, .sl (q.1.cons.map Con.enc), .nils, .nils]
theorem Con.ofC (c : Con) : ofCells (C.ti Qi) c.enc.cells = some c.enc := Q2m QdE (by rw [Z9]; exact Con.cells_len c)
theorem Con.plainC (c : Con) : ∀ x ∈ c.cells, plainV x = true := by
 intro x hx
 simp only [Con.cells, List.mem_cons] at hx
 rcases hx with rfl | rfl | rfl | hx
 ·rfl
 ·rfl
 ·rfl
 ·exact Ty.plainC c.arg x hx
theorem Qf7 {q : Dec × Nat} (h : formD q.1) : dslv q = q.1.enc := by
 obtain ⟨h1, h2, h3, h4, h5⟩ := h
 simp only [dslv, Dec.enc, Dec.cells_eq, h1, h2, h3, h4, h5, Q1R, List.map_nil, Q4L]
theorem Q8c {s0 : St} : ∀ (ps : List (Dec × Nat)) (s : St), Grew s0 s → (∀ q ∈ ps, s0.locs.length ≤ q.2) → (ps.map Prod.snd).Nodup → (∀ q ∈ ps, Holds s q.2 (q.1.cons.map Con.enc)) →
  ∃ s', frzW (Am.frz C.ti 15) (flatL (ps.map dcell)) s = some (flatL (ps.map dslv), s') ∧ Grew s0 s'
 | [], s, g, _, _, _ => ⟨s, rfl, g⟩
 | q :: ps, s, g, hg, hn, hh => by
   have e1 := Qed (ti := C.ti) (e := Qi) (hh q List.mem_cons_self) 13 (fun v hv => by
    obtain ⟨c, _, rfl⟩ := List.mem_map.1 hv
    exact ⟨by rw [Z9]; exact Con.cells_len c, Con.ofC c⟩) (fun v hv => by
    obtain ⟨c, _, rfl⟩ := List.mem_map.1 hv
    exact Con.plainC c) (by rw [Z9]; decide)
   rw [Z9, List.length_map] at e1
   simp only [List.map_cons, List.nodup_cons] at hn
   obtain ⟨s', e2, g2⟩ := Q8c ps (s.kill q.2) (Q3R g (hg q List.mem_cons_self) _) (fun w hw => hg w (List.mem_cons_of_mem _ hw)) hn.2 (fun w hw => (hh w (List.mem_cons_of_mem _ hw)).kill (fun e => hn.1 (e ▸ List.mem_map_of_mem hw)))
   refine ⟨s', ?_, g2⟩
   rw [List.map_cons, List.map_cons, Q0X, Q0X, Qbb]
   have e3 : frzW (Am.frz C.ti 15) (dcell q).cells s = some ((dslv q).cells, s.kill q.2) := by
    simp only [dcell, dslv, Q0J, frzW, Q1u C.ti 14 (v := .int .i64 q.1.kind) rfl, Q1u C.ti 14 (v := .int .i64 q.1.at_) rfl, Q1u C.ti 14 (v := .int .i64 q.1.params) rfl, Q1u C.ti 14 (v := .str q.1.name) rfl, e1, Q1u C.ti 14 (v := .nils) rfl]
   rw [e3]
   simp only []
   rw [e2]
theorem DA.frz {s0 s : St} {x : Slot} {ps : List (Dec × Nat)} (h : DA s0 s x ps) : ∃ s', frzSlot C.ti x s = some (.val (encS true ((ps.map Prod.fst).map Dec.enc)), s') ∧ Grew s0 s' := by
 rcases h.at_ with ⟨rfl, rfl⟩ | ⟨hps, loc, rfl, h1, h2, h3⟩
 ·exact ⟨s, rfl, h.grew⟩
 ·obtain ⟨s', e2, g2⟩ := Q8c (s0 := s0) ps (s.kill loc) (Q3R h.grew h1 _) h.ge h.nd (fun q hq => (h.hold q hq).kill (h2 q hq))
  have hl := Q0L (Q0V ps)
  refine ⟨s', ?_, g2⟩
  unfold Holds at h3
  have e3 : rows (C.ti Qf) ps.length (flatL (ps.map dslv)) = some (ps.map dslv) := by
   have := Q30 (t := C.ti Qf) (l := ps.map dslv) (fun v hv => by
    obtain ⟨q, _, rfl⟩ := List.mem_map.1 hv
    exact ⟨by rw [Zq]; rfl, Q2m QdF (by rw [Zq]; rfl)⟩)
   rw [List.length_map] at this; exact this
  have e4 : ps.map dslv = (ps.map Prod.fst).map Dec.enc := by
   rw [List.map_map]; exact List.map_congr_left fun q hq => Qf7 (h.form q hq)
  simp only [frzSlot, Am.frz, h3]
  rw [Nat.zero_mul, List.drop_zero, List.take_of_length_le (by simp only [List.length_map, hl]; omega), Q43]
  simp only [St.kill] at e2
  simp only []
  rw [e2]
  simp only []
  rw [e3]
  simp only [List.length_map, hl, Nat.zero_add]
  rw [show (Nat.blt 0 7 && Nat.ble (ps.length * 7) (ps.length * 7)) = true by simp [Nat.blt_eq, Nat.ble_eq]]
  simp only [cond_true]
  have : encS true ((ps.map Prod.fst).map Dec.enc) = .sl ((ps.map Prod.fst).map Dec.enc) := by
   cases hp : ps with
   | nil => exact absurd hp hps
   | cons q ps => rfl
  rw [this, ← e4]
end Go.Proofs.Ytoahliipbclneaa
namespace Go.Proofs.Ytoahliipbclneaa
open Go Go.Am
set_option linter.unusedVariables false
theorem Q5d {inn : Bool} : ∀ {P : List Dec} {d : Dec}, d ∈ P → .dec inn d ∈ nodesDecs inn P
 | d :: P, e, h => by
   simp only [nodesDecs]
   rcases List.mem_cons.1 h with rfl | h
   ·cases e; simp only [nodesDec]; exact List.mem_append_left _ List.mem_cons_self
   ·exact List.mem_append_right _ (Q5d h)
theorem QdZ {P : List Dec} (hs : Dec.sizes P < 2^24) (h : rightN (nodesDecs false P) (deepDecs P 0) = .zero) : ∀ d ∈ P, DecFit d := by
 intro d hd
 have hw : wrongDecB d false = 0 := Q77 h _ (Q5d hd)
 have D := Qe0 hw
 have hsz := Dec.mem_sizes hd
 constructor
 ·by_cases h3 : d.kind = 3
  ·have := (D.data h3).2.2.2.1; omega
  ·have := (D.bare h3).1; omega
 ·intro c hc
  have h1 := Con.mem_sizes hc
  have h2 : Con.sizes d.cons ≤ d.size := by
   cases d; simp only [Dec.size, Dec.cons]; omega
  refine Q1Y _ ?_
  simp only [Con.size] at h1
  omega
end Go.Proofs.Ytoahliipbclneaa
namespace Go.Proofs.Ytoahliipbclneaa
open Go Go.Am
set_option linter.unusedVariables false
set_option maxRecDepth 4000
theorem Q5F (v : Slot) {s0 s : St} {x : Slot} {ps : List (Dec × Nat)} (h : DA s0 s x ps) (p : Place) (l : Nat) (hd : Holds s l ((mkD p).cons.map Con.enc)) (hl : s0.locs.length ≤ l) (hn : ∀ q ∈ ps, q.2 ≠ l) (hx : ∀ loc, x = .val (.vs loc Qf 7 0 ps.length) → loc ≠ l)
  (N : Nat) (hN : N < 2^27) (hb : ps.length ≤ N ∧ ∀ q ∈ ps, q.1.cons.length ≤ N) (y z : Slot) (i : Nat) (hi : i < 2^40) :
  ∃ x' s' ps', Q0r v x (p.cells.map .val) ((dcell (mkD p, l)).cells.map .val) y z (.val (.int .i64 i)) s = Zm v x' y z (.val (.int .i64 ((i + 1 : Nat) : Int))) s' ∧ DA s0 s' x' ps' ∧ ps'.map Prod.fst = stepD (ps.map Prod.fst) p ∧ (ps'.length ≤ N + 1 ∧ ∀ q ∈ ps', q.1.cons.length ≤ N + 1) := by
 have w1 : IntKind.i64.wrap ((i : Int) + 1) = ((i + 1 : Nat) : Int) := Q3C (by omega)
 have hone : (mkD p).cons.length = 1 := by unfold mkD; cases decide (p.data = sExn) <;> rfl
 obtain ⟨x', s', e1, a1⟩ := h.push (mkD p) l hd hl hn hx (Qcy p) (by omega)
 have hb' : (ps ++ [(mkD p, l)]).length ≤ N + 1 ∧ ∀ q ∈ ps ++ [(mkD p, l)], q.1.cons.length ≤ N + 1 := by
  refine ⟨by rw [List.length_append, List.length_singleton]; omega, fun q hq => ?_⟩
  rcases List.mem_append.1 hq with hq | hq
  ·have := hb.2 q hq; omega
  ·simp only [List.mem_singleton] at hq; subst hq; simp only [hone]; omega
 rcases List.eq_nil_or_concat ps with rfl | ⟨qs, ⟨d, l'⟩, rfl⟩
 ·obtain ⟨-, rfl⟩ : ([] : List (Dec × Nat)) = [] ∧ x = .val .nils := by
   rcases h.at_ with h | ⟨h, -⟩
   ·exact h
   ·exact absurd rfl h
  refine ⟨x', s', _, ?_, a1, by simp [Q68], hb'⟩
  rw [Q1r]
  have hE := hone
  cases hc : decide (p.data = sExn) with
  | true =>
    have hm : mkD p = exnDec (conD p) := by simp only [mkD, hc, cond_true]
    simp only [hm, dcell, exnDec, Dec.kind, Dec.at_, Dec.name, Dec.params, Dec.cons, List.length_singleton] at e1 ⊢
    simp only [go_sem, Int.reduceEq, Int.reduceGT, Int.reduceNeg, Int.reduceSub, Nat.reduceAdd, Nat.reduceLeDiff, Q0J, Place.cells_eq, List.map_cons, List.map_nil, e1, w1, Int.natCast_zero]
  | false =>
    have hm : mkD p = dataDec p.data p.vars [conD p] := by simp only [mkD, hc, cond_false]
    simp only [hm, dcell, dataDec, Dec.kind, Dec.at_, Dec.name, Dec.params, Dec.cons, List.length_singleton] at e1 ⊢
    simp only [go_sem, Int.reduceEq, Int.reduceGT, Int.reduceNeg, Int.reduceSub, Nat.reduceAdd, Nat.reduceLeDiff, Q0J, Place.cells_eq, List.map_cons, List.map_nil, e1, w1, Int.natCast_zero]
 ·rw [List.concat_eq_append] at *
  obtain ⟨loc, rfl, h1, h2, h3⟩ : ∃ loc, x = .val (.vs loc Qf 7 0 (qs ++ [(d, l')]).length) ∧ s0.locs.length ≤ loc ∧ (∀ q ∈ qs ++ [(d, l')], q.2 ≠ loc) ∧ Holds s loc ((qs ++ [(d, l')]).map dcell) := by
   rcases h.at_ with ⟨h, -⟩ | h
   ·simp at h
   ·exact h.2
  have hlen : (qs ++ [(d, l')]).length = qs.length + 1 := by simp
  have hmem : (d, l') ∈ qs ++ [(d, l')] := by simp
  have hcl : d.cons.length ≤ N := hb.2 _ hmem
  have hql : qs.length < 2^27 := by have := hb.1; omega
  have f0 : IntKind.i64.wrap (((qs.length + 1 : Nat) : Int) - 1) = (qs.length : Int) := QfV (by omega)
  have f1 : ixS 7 (.val (.vs loc Qf 7 0 (qs.length + 1))) (.val (.int .i64 qs.length)) = some (.val (.vp loc (qs.length * 7))) := by
   rw [Qej (by omega) (by decide), Nat.zero_add]
  have hcells : s.locs[loc]? = some (.var ((flatL (qs.map dcell)).map .val ++ [.val (.int .i64 d.kind), .val (.int .i64 d.at_), .val (.str d.name), .val (.int .i64 d.params), .val (.vs l' Qi 7 0 d.cons.length), .val .nils, .val .nils])) := by
   unfold Holds at h3
   rw [h3, List.map_append, Q3Q, List.map_append]; rfl
  have hpl : ((flatL (qs.map dcell)).map Slot.val).length = qs.length * 7 := by rw [List.length_map, Q0L (Q0V qs), List.length_map]
  have f2 : ldV (C.ti Qd) false s (.val (.vp loc (qs.length * 7 + 0))) = some (.val (.int .i64 d.kind)) := by
   rw [Q5S hcells, Nat.add_zero, List.drop_left' hpl]; rfl
  have f3 : ldV (C.ti Q2) false s (.val (.vp loc (qs.length * 7 + 2))) = some (.val (.str d.name)) := by
   rw [Q5S hcells, ← hpl, List.drop_append, List.drop_of_length_le (by omega)]
   rw [show ((flatL (qs.map dcell)).map Slot.val).length + 2 - ((flatL (qs.map dcell)).map Slot.val).length = 2 by omega]; rfl
  have f4 : ldV (C.ti Qr) false s (.val (.vp loc (qs.length * 7 + 4))) = some (.val (.vs l' Qi 7 0 d.cons.length)) := by
   rw [Q5S hcells, ← hpl, List.drop_append, List.drop_of_length_le (by omega)]
   rw [show ((flatL (qs.map dcell)).map Slot.val).length + 4 - ((flatL (qs.map dcell)).map Slot.val).length = 4 by omega]; rfl
  have f5 : decide (((qs.length + 1 : Nat) : Int) > 0) = true := decide_eq_true (by omega)
  have hmap : (qs ++ [(d, l')]).map Prod.fst = qs.map Prod.fst ++ [d] := by simp
  rw [hlen] at e1
  cases hj : joins p d with
  | false =>
    refine ⟨x', s', _, ?_, a1, by rw [hmap, Q3X, hj, cond_false, List.map_append, hmap]; rfl, hb'⟩
    rw [hlen, Q1r]
    cases hc : decide (p.data = sExn) with
    | true =>
      have hm : mkD p = exnDec (conD p) := by simp only [mkD, hc, cond_true]
      simp only [hm, dcell, exnDec, Dec.kind, Dec.at_, Dec.name, Dec.params, Dec.cons, List.length_singleton] at e1 ⊢
      simp only [go_sem, Int.reduceEq, Nat.reduceAdd, Nat.reduceLeDiff, Q0J, Place.cells_eq, List.map_cons, List.map_nil, e1, w1]
    | false =>
      have hm : mkD p = dataDec p.data p.vars [conD p] := by simp only [mkD, hc, cond_false]
      simp only [hm, dcell, dataDec, Dec.kind, Dec.at_, Dec.name, Dec.params, Dec.cons, List.length_singleton] at e1
      simp only [joins, hc, Bool.not_false, Bool.true_and] at hj
      have hdc : (dcell (mkD p, l)).cells = [.int .i64 3, .int .i64 0, .str p.data, .int .i64 p.vars, .vs l Qi 7 0 1, .nils, .nils] := by rw [hm]; rfl
      rw [hdc]
      by_cases hk : d.kind = 3
      ·have hnm : decide (d.name = p.data) = false := by simpa [hk] using hj
       simp only [go_sem, Nat.reduceAdd, Nat.reduceLeDiff, Q0J, Place.cells_eq, List.map_cons, List.map_nil, e1, w1, f0, f1, f2, f3, f5, hk, hnm]
      ·simp only [go_sem, Nat.reduceAdd, Nat.reduceLeDiff, Q0J, Place.cells_eq, List.map_cons, List.map_nil, e1, w1, f0, f1, f2, f3, f5, decide_eq_false hk]
  | true =>
    obtain ⟨s1, s2, e2, e3, a2⟩ := h.join (conD p) (by omega)
    refine ⟨_, s2, _, ?_, a2, by rw [hmap, Q3X, hj, cond_true, List.map_append]; rfl, ?_⟩
    ·simp only [joins, Bool.and_eq_true, Bool.not_eq_true', decide_eq_false_iff_not, decide_eq_true_eq] at hj
     obtain ⟨⟨hc, hk⟩, hnm⟩ := hj
     have hm : mkD p = dataDec p.data p.vars [conD p] := by simp only [mkD, decide_eq_false hc, cond_false]
     have hdc : (dcell (mkD p, l)).cells = [.int .i64 3, .int .i64 0, .str p.data, .int .i64 p.vars, .vs l Qi 7 0 1, .nils, .nils] := by rw [hm]; rfl
     have ec := Q5a p s
     simp only [Place.enc, Place.cells_eq] at ec
     have hcn : (conD p).cells.length = 7 := Con.cells_len _
     rw [hdc, hlen, Q1r]
     simp only [Con.enc] at e2 ec
     simp only [go_sem, Nat.reduceAdd, Nat.reduceLeDiff, Q0J, Place.cells_eq, List.map_cons, List.map_nil, w1, f0, f1, f2, f3, f4, f5, hk, hnm, decide_true, ec, hcn, e2, e3, List.length_append, List.length_singleton]
    ·refine ⟨by rw [List.length_append, List.length_singleton]; have := hb.1; rw [hlen] at this; omega, fun q hq => ?_⟩
     rcases List.mem_append.1 hq with hq | hq
     ·have := hb.2 q (List.mem_append_left _ hq); omega
     ·simp only [List.mem_singleton] at hq; subst hq
      simp only [addCon, Dec.cons, List.length_append, List.length_singleton]
      have hcl : d.cons.length ≤ N := hcl
      simp only [Dec.cons] at hcl
      omega
theorem Qf2 {e : TypeId} {t : TI} {v : AV} (s : St) (h : v.cells.length = t.size) (ht : v.isTup = false) (hb : t.bytes ≤ 2^16) : bslV e t s [.val v] = some (.val (.vs s.locs.length e t.size 0 1), s.addLoc (.var ((flatL [v]).map .val))) := by
 unfold bslV
 simp only [Qf1 h ht, Qf0, Option.map_some, newV]
 rw [if_pos ⟨by simp only [List.length_singleton]; omega, by simp⟩]; rfl
theorem Q2o (v : Slot) (T : List Place) (y : Slot) (hy : y.list? = some (T.map Place.enc)) (hT : T.length < 2^26) (s0 : St) : ∀ (suf pre : List Place) (x : Slot) (s : St) (ps : List (Dec × Nat)) (i : Nat), pre ++ suf = T → i = pre.length → DA s0 s x ps → (ps.length ≤ i ∧ ∀ q ∈ ps, q.1.cons.length ≤ i) →
  ∃ s', Zm v x y (.val (.int .i64 T.length)) (.val (.int .i64 i)) s = ZH v (.val (encS true ((suf.foldl stepD (ps.map Prod.fst)).map Dec.enc))) (.val (encS true ((suf.foldl stepD (ps.map Prod.fst)).map Dec.enc))) (.val (.int .i64 ((suf.foldl stepD (ps.map Prod.fst)).length : Nat))) (.val (.int .i64 0)) s' ∧ Grew s0 s'
 | [], pre, x, s, ps, i, hp, hi, h, hb => by
   subst hi
   obtain ⟨s', e1, g1⟩ := h.frz
   refine ⟨s', ?_, g1⟩
   rw [Q3g]
   simp only [go_sem, Nat.reduceAdd, Nat.reduceLeDiff, Qa (show pre = T by simpa using hp), e1, List.foldl_nil, List.length_map]
 | p :: suf, pre, x, s, ps, i, hp, hi, h, hb => by
   subst hi
   have hlt : pre.length < T.length := by rw [← hp]; simp
   obtain ⟨f1, f2, f3⟩ := Q9 hy hp (by omega) (Place.cells_len p) (by decide)
   have e1 := Qf2 (e := Qi) (t := C.ti Qi) (v := (conD p).enc) s (by rw [Z9]; exact Con.cells_len _) rfl (by rw [Q6B]; decide)
   rw [Z9] at e1
   have ec := Q5a p s
   have g1 : Grew s (s.addLoc (.var ((flatL [(conD p).enc]).map .val))) := (Grew.refl s).addLoc _
   have hnew := Q9R s [(conD p).enc]
   have hone : (mkD p).cons = [conD p] := by unfold mkD; cases decide (p.data = sExn) <;> rfl
   have h' : DA s0 (s.addLoc (.var ((flatL [(conD p).enc]).map .val))) x ps := ⟨h.grew.trans g1, by
    rcases h.at_ with h | ⟨h0, loc, h1, h2, h3, h4⟩
    ·exact .inl h
    ·exact .inr ⟨h0, loc, h1, h2, h3, h4.move g1⟩, h.ge, h.nd, fun q hq => (h.hold q hq).move g1, h.form⟩
   obtain ⟨x', s', ps', e2, a2, hm, hb2⟩ := Q5F v h' p s.locs.length (by rw [hone]; exact hnew) h.grew.locsLe (fun q hq => Nat.ne_of_lt (h.hold q hq).lt) (fun loc hl => by
    rcases h.at_ with ⟨-, h⟩ | ⟨h0, loc', h1, h2, h3, h4⟩
    ·rw [h] at hl; simp at hl
    ·rw [h1] at hl
     obtain rfl : loc' = loc := by injection hl with hl; injection hl
     exact Nat.ne_of_lt h4.lt) pre.length (by omega) hb y (.val (.int .i64 T.length)) pre.length (by omega)
   obtain ⟨s3, e3, g3⟩ := Q2o v T y hy hT s0 suf (pre ++ [p]) x' s' ps' (pre.length + 1) (by simpa using hp) (by simp) a2 hb2
   refine ⟨s3, ?_, g3⟩
   rw [List.foldl_cons, ← hm, ← e3, ← e2]
   rw [Q3g]
   simp only [Place.enc, Place.cells_eq, Con.enc] at ec e1
   cases hc : decide (p.data = sExn) with
   | true =>
     have hdc : (dcell (mkD p, s.locs.length)).cells = [.int .i64 4, .int .i64 0, .str [], .int .i64 0, .vs s.locs.length Qi 7 0 1, .nils, .nils] := by simp only [mkD, hc, cond_true]; rfl
     have hc' : decide (p.data = [101, 120, 110]) = true := hc
     rw [hdc]
     simp only [go_sem, Nat.reduceAdd, Nat.reduceLeDiff, f1, f2, Place.cells_eq, List.map_cons, List.map_nil, ec, e1, hc']
   | false =>
     have hdc : (dcell (mkD p, s.locs.length)).cells = [.int .i64 3, .int .i64 0, .str p.data, .int .i64 p.vars, .vs s.locs.length Qi 7 0 1, .nils, .nils] := by simp only [mkD, hc, cond_false]; rfl
     have hc' : decide (p.data = [101, 120, 110]) = false := hc
     rw [hdc]
     simp only [go_sem, Nat.reduceAdd, Nat.reduceLeDiff, f1, f2, Place.cells_eq, List.map_cons, List.map_nil, ec, e1, hc']
theorem Q9c (p q : Place) (h : WideTy p.ty) (s : St) : cw (.f Q17) [p.enc, q.enc] s = some (.ret (.val (.bool (eqPl p q))), s) := by
 have e1 := fun s => QbL p.ty h q.ty s
 simp only [Ty.enc, Ty.cells_eq] at e1
 rw [QaZ]
 simp only [go_sem, Nat.reduceAdd, Nat.reduceLeDiff, Place.enc, Place.cells_eq, List.map_cons, List.map_nil, e1]
 rfl
theorem Q0i (t u : List Place) (x y : Slot) (hx : x.list? = some (t.map Place.enc)) (hy : y.list? = some (u.map Place.enc)) (hl : t.length < 2^40) (he : t.length = u.length) (hw : ∀ p ∈ t, WideTy p.ty) (s : St) : ∀ (suf suf' pre pre' : List Place) (i : Nat), pre ++ suf = t → pre' ++ suf' = u → i = pre.length → pre'.length = pre.length →
  Qj y (.val (.fn Q17 [])) x (.val (.int .i64 t.length)) (.val (.int .i64 i)) s = some (.ret (.val (.bool (eqTab suf suf'))), s)
 | [], suf', pre, pre', i, hp, hp', hi, hi' => by
   subst hi
   have : suf' = [] := by
    have h1 : t.length = pre.length := by rw [← hp]; simp
    have h2 : u.length = pre'.length + suf'.length := by rw [← hp']; simp
    exact List.eq_nil_of_length_eq_zero (by omega)
   subst this
   rw [QK]; simp only [go_sem, Qa (show pre = t by simpa using hp), eqTab]
 | p :: suf, [], pre, pre', i, hp, hp', hi, hi' => by
   have h1 : t.length = pre.length + (suf.length + 1) := by rw [← hp]; simp
   have h2 : u.length = pre'.length := by rw [← hp']; simp
   omega
 | p :: suf, q :: suf', pre, pre', i, hp, hp', hi, hi' => by
   subst hi
   obtain ⟨f1, f2, f3⟩ := Q9 hx hp (by omega) (Place.cells_len p) (by decide)
   obtain ⟨f4, f5, f6⟩ := Q9 hy hp' (by omega) (Place.cells_len q) (by decide)
   rw [hi'] at f5
   have ih := Q0i t u x y hx hy hl he hw s suf suf' (pre ++ [p]) (pre' ++ [q]) (pre.length + 1) (by simpa using hp) (by simpa using hp') (by simp) (by simp [hi'])
   have e1 := Q9c p q (hw p (by rw [← hp]; simp)) s
   simp only [Place.enc, Place.cells_eq] at e1
   rw [QK]
   cases e : eqPl p q with
   | true =>
     rw [e] at e1
     simp only [go_sem, Nat.reduceAdd, Nat.reduceLeDiff, f1, f2, f3, f5, Place.cells_eq, List.map_cons, List.map_nil, e1, Bool.not_true, ih, eqTab, e, Bool.true_and]
   | false =>
     rw [e] at e1
     simp only [go_sem, Nat.reduceAdd, Nat.reduceLeDiff, f1, f2, f3, f5, Place.cells_eq, List.map_cons, List.map_nil, e1, Bool.not_false, eqTab, e, Bool.false_and]
theorem Q2x (t u : List Place) (v w : AV) (hv : (Slot.val v).list? = some (t.map Place.enc)) (hw' : (Slot.val w).list? = some (u.map Place.enc)) (hl : t.length < 2^40) (hw : ∀ p ∈ t, WideTy p.ty) (s : St) :
  cw (.f Qo) [v, w, .fn Q17 []] s = some (.ret (.val (.bool (eqTab t u))), s) := by
 rw [ZY]
 by_cases he : t.length = u.length
 ·have e1 := Q0i t u (.val v) (.val w) hv hw' hl he hw s t u [] [] 0 rfl rfl rfl rfl
  rw [show ((0 : Nat) : Int) = 0 from rfl] at e1
  have he' : decide ((t.length : Int) = (u.length : Int)) = true := by simp only [decide_eq_true_eq]; omega
  simp only [go_sem, hv, hw', List.length_map, he', Bool.not_true, e1]
 ·have he' : decide ((t.length : Int) = (u.length : Int)) = false := by simp only [decide_eq_false_iff_not]; omega
  have : eqTab t u = false := by
   cases h : eqTab t u with
   | false => rfl
   | true => exact absurd (Q9H h) he
  simp only [go_sem, hv, hw', List.length_map, he', Bool.not_false, this]
structure TabOK (t : List Place) : Prop where
 size : Place.sizes t < 2^22
 ok : ∀ p ∈ t, PlaceOK p
theorem TabOK.wide {t : List Place} (h : TabOK t) : ∀ p ∈ t, WideTy p.ty := fun p hp => Q1Y _ (by have := Place.mem_sizes hp; have := h.size; omega)
theorem TabOK.len {t : List Place} (h : TabOK t) : t.length < 2^22 := Nat.lt_of_le_of_lt (Place.len_sizes t) h.size
theorem QgC {d : Dec} (hs : d.size < 2^24) (h : okD d = true) : DecFit d := by
 simp only [okD, decide_eq_true_eq] at h
 exact QdZ (P := [d]) (by simp only [Dec.sizes]; omega) (Q8F.1 h) d (by simp)
theorem Q2p (t : List Place) (ht : TabOK t) (v : AV) (hv : (Slot.val v).list? = some (t.map Place.enc)) (P : List Dec) (hs : Dec.sizes P < 2^24) (hg : ∀ d ∈ P, DGood d) : ∀ (suf pre : List Dec) (s : St) (i : Nat), pre ++ suf = P → i = pre.length → (∀ d ∈ pre, okD d = true) →
  Ret (ZH (.val v) (.val (encS true (P.map Dec.enc))) (.val (encS true (P.map Dec.enc))) (.val (.int .i64 P.length)) (.val (.int .i64 i)) s) s (.bool (suf.all okD && (decide ((ofD P startD).2.kind = 0) && eqTab t (ofD P startD).1)))
 | [], pre, s, i, hp, hi, hk => by
   subst hi
   have hpP : pre = P := by simpa using hp
   subst hpP
   obtain ⟨s1, w, e1, hw, g1⟩ := QaY pre true (fun d hd => QgC (by have := Dec.mem_sizes hd; omega) (hk d hd)) (by omega) s
   have e2 := Q2x t (ofD pre startD).1 v w hv hw (by have := ht.len; omega) ht.wide s1
   refine ⟨s1, ?_, g1⟩
   rw [Q3h]
   simp only [TBad.enc, TBad.cells] at e1
   simp only [go_sem, Nat.reduceAdd, Nat.reduceLeDiff, Qa rfl, e1, TBad.cells, List.map_cons, List.map_nil, e2, List.all_nil, Bool.true_and]
 | d :: suf, pre, s, i, hp, hi, hk => by
   subst hi
   obtain ⟨f1, f2, f3⟩ := Q9 (x := .val (encS true (P.map Dec.enc))) (Qk _ _) hp (by have := Dec.len_sizes P; omega) (Dec.cells_len d) (by decide)
   have hd : d ∈ P := by rw [← hp]; simp
   obtain ⟨s1, e1, g1⟩ := Q8I [d] false s (by have := Dec.mem_sizes hd; simp only [Dec.sizes]; omega) (Qgv (hg d hd))
   rw [Q3h]
   simp only [TBad.enc, TBad.cells, List.map_cons, List.map_nil, Q1R, Dec.enc, Dec.cells_eq] at e1
   cases h : okD d with
   | true =>
     obtain ⟨s2, e2, g2⟩ := Q2p t ht v hv P hs hg suf (pre ++ [d]) s1 (pre.length + 1) (by simpa using hp) (by simp) (fun q hq => by
      rcases List.mem_append.1 hq with hq | hq
      ·exact hk q hq
      ·simp only [List.mem_singleton] at hq; subst hq; exact h)
     have h' : decide ((rightN (nodesDecs false [d]) (deepDecs [d] 0)).kind = 0) = true := h
     refine ⟨s2, ?_, g1.trans g2⟩
     simp only [go_sem, Nat.reduceAdd, Nat.reduceLeDiff, f1, f2, f3, Dec.cells_eq, List.map_cons, List.map_nil, e1, h', Bool.not_true, List.all_cons, h, Bool.true_and]
     exact e2
   | false =>
     have h' : decide ((rightN (nodesDecs false [d]) (deepDecs [d] 0)).kind = 0) = false := h
     refine ⟨s1, ?_, g1⟩
     simp only [go_sem, Nat.reduceAdd, Nat.reduceLeDiff, f1, f2, f3, Dec.cells_eq, List.map_cons, List.map_nil, e1, h', Bool.not_false, List.all_cons, h, Bool.false_and]
theorem Q3J (t : List Place) (ht : TabOK t) (v : AV) (hv : (Slot.val v).list? = some (t.map Place.enc)) (s : St) : Ret (cw (.f Zy) [v] s) s (.bool (rightTD t)) := by
 obtain ⟨s1, e1, g1⟩ := Q1N s
 have hlen := ht.len
 have h6 : ((startD.length : Nat) : Int) = 6 := rfl
 rw [Qao]
 by_cases h : (t.length : Int) < 6
 ·refine ⟨s1, ?_, g1⟩
  simp only [go_sem, e1, hv, List.length_map, h6, h, decide_true, rightTD, Bool.not_true, Bool.false_and]
 ·have hd : (t.drop 6).length < 2^26 := by rw [List.length_drop]; omega
  obtain ⟨w, e0, hw⟩ := Qdp (t := C.ti QB) Q9s hv (sz := 10) (fun x hx => by
   obtain ⟨p, _, rfl⟩ := List.mem_map.1 hx
   exact Place.cells_len p) (by decide) (lo := some (.val (.int .i64 ((6 : Nat) : Int)))) (hi := none) rfl (QdP (by rw [List.length_map]; omega))
  rw [List.take_length, ← List.map_drop] at hw
  rw [show ((6 : Nat) : Int) = 6 from rfl] at e0
  obtain ⟨s2, e2, g2⟩ := Q2o (.val v) (t.drop 6) (.val w) hw hd s1 (t.drop 6) [] (.val .nils) s1 [] 0 rfl rfl ⟨.refl _, .inl ⟨rfl, rfl⟩, by simp, by simp, by simp, by simp⟩ (by simp)
  obtain ⟨s3, e3, g3⟩ := Q2p t ht v hv (decsD t) (by have := Qd6 t; have := ht.size; omega) (Qd5 ht.ok) (decsD t) [] s2 0 rfl rfl (by simp)
  rw [show ((0 : Nat) : Int) = 0 from rfl] at e2 e3
  refine ⟨s3, ?_, (g1.trans g2).trans g3⟩
  simp only [go_sem, e1, hv, List.length_map, h6, h, decide_false, e0, hw, rightTD, Bool.not_false, Bool.true_and]
  rw [e2]
  exact e3
end Go.Proofs.Ytoahliipbclneaa
namespace Go.Proofs.Ytoahliipbclneaa
open Go Go.Am
set_option linter.unusedVariables false
def RN (l : List TNode) : Prop := ∀ n ∈ l, n.wrong.1 = 0
theorem RN.l {a b : List TNode} (h : RN (a ++ b)) : RN a := fun n hn => h n (List.mem_append_left _ hn)
theorem RN.r {a b : List TNode} (h : RN (a ++ b)) : RN b := fun n hn => h n (List.mem_append_right _ hn)
theorem RN.t {x : TNode} {a : List TNode} (h : RN (x :: a)) : RN a := fun n hn => h n (List.mem_cons_of_mem _ hn)
theorem RN.cases : ∀ {l : List Case}, RN (nodesCases l) → ∀ e ∈ l, RN (nodesCase e)
 | x :: l, h, e, he => by
   simp only [nodesCases] at h
   rcases List.mem_cons.1 he with rfl | he
   ·exact h.l
   ·exact h.r.cases e he
theorem RN.decs {i : Bool} : ∀ {l : List Dec}, RN (nodesDecs i l) → ∀ e ∈ l, RN (nodesDec i e)
 | x :: l, h, e, he => by
   simp only [nodesDecs] at h
   rcases List.mem_cons.1 he with rfl | he
   ·exact h.l
   ·exact h.r.decs e he
theorem RN.funs : ∀ {l : List Fun}, RN (nodesFuns l) → ∀ e ∈ l, RN (nodesCase e.case)
 | x :: l, h, e, he => by
   simp only [nodesFuns] at h
   rcases List.mem_cons.1 he with rfl | he
   ·cases e; simp only [nodesFun] at h; exact h.l.t
   ·exact h.r.funs e he
end Go.Proofs.Ytoahliipbclneaa
namespace Go.Am
open Go
mutual
def nmTy : Ty → Ty
 | .mk k n s l _ => .mk k n s (nmTys l) true
def nmTys : List Ty → List Ty
 | [] => []
 | t :: l => nmTy t :: nmTys l
end
def nmAt (w : Bool) (a : Int) : Int := bif w then a else 0
mutual
def nmPat (w : Bool) : Pat → Pat
 | .mk k a s n l _ => .mk k (nmAt w a) s n (nmPats w l) true
def nmPats (w : Bool) : List Pat → List Pat
 | [] => []
 | t :: l => nmPat w t :: nmPats w l
end
def nmCon (w : Bool) (c : Con) : Con := ⟨c.name, nmAt w c.at_, c.has, nmTy c.arg⟩
def nmCons (w : Bool) : List Con → List Con
 | [] => []
 | t :: l => nmCon w t :: nmCons w l
mutual
def nmExp (w : Bool) : Exp → Exp
 | .mk k a s n l _ c _ d _ => .mk k (nmAt w a) s n (nmExps w l) true (nmCases w c) true (nmDecs w d) true
def nmExps (w : Bool) : List Exp → List Exp
 | [] => []
 | t :: l => nmExp w t :: nmExps w l
def nmCase (w : Bool) : Case → Case
 | .mk p e => .mk (nmPat w p) (nmExp w e)
def nmCases (w : Bool) : List Case → List Case
 | [] => []
 | t :: l => nmCase w t :: nmCases w l
def nmDec (w : Bool) : Dec → Dec
 | .mk k a s p l _ c _ f _ => .mk k (nmAt w a) s p (nmCons w l) true (nmCases w c) true (nmFuns w f) true
def nmDecs (w : Bool) : List Dec → List Dec
 | [] => []
 | t :: l => nmDec w t :: nmDecs w l
def nmFun (w : Bool) : Fun → Fun
 | .mk s a c => .mk s (nmAt w a) (nmCase w c)
def nmFuns (w : Bool) : List Fun → List Fun
 | [] => []
 | t :: l => nmFun w t :: nmFuns w l
end
theorem Q4h (w : Bool) (a b : Int) : atB w a b = true ↔ nmAt w a = nmAt w b := by cases w <;> simp [atB, nmAt]
mutual
theorem Q7s : ∀ t u : Ty, eqTy t u = true ↔ nmTy t = nmTy u
 | .mk k n s l b, .mk k' n' s' l' b' => by simp only [eqTy, nmTy, Ty.mk.injEq, Bool.and_eq_true, decide_eq_true_eq, Q9I l l', and_true, and_assoc]
theorem Q9I : ∀ l m : List Ty, eqTys l m = true ↔ nmTys l = nmTys m
 | [], [] => by simp [eqTys, nmTys]
 | [], _ :: _ => by simp [eqTys, nmTys]
 | _ :: _, [] => by simp [eqTys, nmTys]
 | t :: l, u :: m => by simp only [eqTys, nmTys, List.cons.injEq, Bool.and_eq_true, Q7s t u, Q9I l m]
end
mutual
theorem Q9E (w : Bool) : ∀ t u : Pat, eqPat w t u = true ↔ nmPat w t = nmPat w u
 | .mk k a s n l b, .mk k' a' s' n' l' b' => by
   simp only [eqPat, nmPat, Pat.mk.injEq, Bool.and_eq_true, decide_eq_true_eq, Q88 w l l', Q4h, and_true]
   constructor <;> simp +contextual
theorem Q88 (w : Bool) : ∀ l m : List Pat, eqPats w l m = true ↔ nmPats w l = nmPats w m
 | [], [] => by simp [eqPats, nmPats]
 | [], _ :: _ => by simp [eqPats, nmPats]
 | _ :: _, [] => by simp [eqPats, nmPats]
 | t :: l, u :: m => by simp only [eqPats, nmPats, List.cons.injEq, Bool.and_eq_true, Q9E w t u, Q88 w l m]
end
theorem Qe5 (w : Bool) (c d : Con) : eqCon w c d = true ↔ nmCon w c = nmCon w d := by
 simp only [eqCon, nmCon, Con.mk.injEq, Bool.and_eq_true, decide_eq_true_eq, Q7s, Q4h]
 constructor <;> simp +contextual
theorem Q84 (w : Bool) : ∀ l m : List Con, eqCons w l m = true ↔ nmCons w l = nmCons w m
 | [], [] => by simp [eqCons, nmCons]
 | [], _ :: _ => by simp [eqCons, nmCons]
 | _ :: _, [] => by simp [eqCons, nmCons]
 | t :: l, u :: m => by simp only [eqCons, nmCons, List.cons.injEq, Bool.and_eq_true, Qe5 w t u, Q84 w l m]
mutual
theorem Q9D (w : Bool) : ∀ t u : Exp, eqExp w t u = true ↔ nmExp w t = nmExp w u
 | .mk k a s n l lb c cb d db, .mk k' a' s' n' l' lb' c' cb' d' db' => by
   simp only [eqExp, nmExp, Exp.mk.injEq, Bool.and_eq_true, decide_eq_true_eq, Q86 w l l', Q45 w c c', Q85 w d d', Q4h, and_true]
   constructor <;> simp +contextual
theorem Q86 (w : Bool) : ∀ l m : List Exp, eqExps w l m = true ↔ nmExps w l = nmExps w m
 | [], [] => by simp [eqExps, nmExps]
 | [], _ :: _ => by simp [eqExps, nmExps]
 | _ :: _, [] => by simp [eqExps, nmExps]
 | t :: l, u :: m => by simp only [eqExps, nmExps, List.cons.injEq, Bool.and_eq_true, Q9D w t u, Q86 w l m]
theorem Q83 (w : Bool) : ∀ t u : Case, eqCase w t u = true ↔ nmCase w t = nmCase w u
 | .mk p e, .mk p' e' => by simp only [eqCase, nmCase, Case.mk.injEq, Bool.and_eq_true, Q9E w p p', Q9D w e e']
theorem Q45 (w : Bool) : ∀ l m : List Case, eqCases w l m = true ↔ nmCases w l = nmCases w m
 | [], [] => by simp [eqCases, nmCases]
 | [], _ :: _ => by simp [eqCases, nmCases]
 | _ :: _, [] => by simp [eqCases, nmCases]
 | t :: l, u :: m => by simp only [eqCases, nmCases, List.cons.injEq, Bool.and_eq_true, Q83 w t u, Q45 w l m]
theorem Qe6 (w : Bool) : ∀ t u : Dec, eqDec w t u = true ↔ nmDec w t = nmDec w u
 | .mk k a s p l lb c cb f fb, .mk k' a' s' p' l' lb' c' cb' f' fb' => by
   simp only [eqDec, nmDec, Dec.mk.injEq, Bool.and_eq_true, decide_eq_true_eq, Q84 w l l', Q45 w c c', Q87 w f f', Q4h, and_true]
   constructor <;> simp +contextual
theorem Q85 (w : Bool) : ∀ l m : List Dec, eqDecs w l m = true ↔ nmDecs w l = nmDecs w m
 | [], [] => by simp [eqDecs, nmDecs]
 | [], _ :: _ => by simp [eqDecs, nmDecs]
 | _ :: _, [] => by simp [eqDecs, nmDecs]
 | t :: l, u :: m => by simp only [eqDecs, nmDecs, List.cons.injEq, Bool.and_eq_true, Qe6 w t u, Q85 w l m]
theorem Qe7 (w : Bool) : ∀ t u : Fun, eqFun w t u = true ↔ nmFun w t = nmFun w u
 | .mk s a c, .mk s' a' c' => by
   simp only [eqFun, nmFun, Fun.mk.injEq, Bool.and_eq_true, decide_eq_true_eq, Q83 w c c', Q4h]
   constructor <;> simp +contextual
theorem Q87 (w : Bool) : ∀ l m : List Fun, eqFuns w l m = true ↔ nmFuns w l = nmFuns w m
 | [], [] => by simp [eqFuns, nmFuns]
 | [], _ :: _ => by simp [eqFuns, nmFuns]
 | _ :: _, [] => by simp [eqFuns, nmFuns]
 | t :: l, u :: m => by simp only [eqFuns, nmFuns, List.cons.injEq, Bool.and_eq_true, Qe7 w t u, Q87 w l m]
end
end Go.Am
namespace Go.Proofs.Ytoahliipbclneaa
open Go Go.Am
set_option linter.unusedVariables false
mutual
theorem Qbz : ∀ t : Ty, ownTy t = nmTy t
 | .mk k n s l b => by simp only [ownTy, nmTy, QcN l]
theorem QcN : ∀ l : List Ty, ownTys l = nmTys l
 | [] => rfl
 | t :: l => by simp only [ownTys, nmTys, Qbz t, QcN l]
end
theorem Qfa (t u : Ty) : eqTy t u = true ↔ ownTy t = ownTy u := by rw [Qbz, Qbz]; exact Q7s t u
theorem Qb2 (p q : Place) : eqPl p q = true ↔ ownP p = ownP q := by
 cases p; cases q
 simp only [eqPl, ownP, Bool.and_eq_true, decide_eq_true_eq, beq_iff_eq, Qfa, Place.mk.injEq, and_assoc]
theorem Q9G : ∀ t u : List Place, eqTab t u = true ↔ TabEq t u
 | [], [] => ⟨fun _ => rfl, fun _ => rfl⟩
 | [], q :: u => by simp [eqTab, TabEq]
 | p :: t, [] => by simp [eqTab, TabEq]
 | p :: t, q :: u => by
   simp only [eqTab, Bool.and_eq_true, Qb2, Q9G t u, TabEq, List.map_cons, List.cons.injEq]
theorem QfE {P : List Dec} {D : Int} (h : rightN (nodesDecs false P) D = .zero) : RN (nodesDecs false P) := Q77 h
theorem Qeu {d : Dec} (h : okD d = true) : RN (nodesDec false d) := by
 simp only [okD, decide_eq_true_eq] at h
 exact (QfE (Q8F.1 h)).decs d (by simp)
end Go.Proofs.Ytoahliipbclneaa
namespace Go.Am
open Go
def nmNode (w : Bool) : TNode → TNode
 | .dec i d => .dec i (nmDec w d)
 | .exp e => .exp (nmExp w e)
 | .pat p => .pat (nmPat w p)
 | .ty t a => .ty (nmTy t) (nmAt w a)
 | .fn f => .fn (nmFun w f)
 | .con c => .con (nmCon w c)
mutual
theorem Q8n (w : Bool) (a : Int) : ∀ t : Ty, nodesTy (nmAt w a) (nmTy t) = (nodesTy a t).map (nmNode w)
 | .mk k n s l b => by simp only [nmTy, nodesTy, List.map_cons, nmNode, Q72 w a l]
theorem Q72 (w : Bool) (a : Int) : ∀ l : List Ty, nodesTys (nmAt w a) (nmTys l) = (nodesTys a l).map (nmNode w)
 | [] => by simp only [nmTys, nodesTys, List.map_nil]
 | t :: l => by simp only [nmTys, nodesTys, List.map_append, Q8n w a t, Q72 w a l]
end
mutual
theorem Q71 (w : Bool) : ∀ t : Pat, nodesPat (nmPat w t) = (nodesPat t).map (nmNode w)
 | .mk k a s n l b => by simp only [nmPat, nodesPat, List.map_cons, nmNode, Q64 w l]
theorem Q64 (w : Bool) : ∀ l : List Pat, nodesPats (nmPats w l) = (nodesPats l).map (nmNode w)
 | [] => by simp only [nmPats, nodesPats, List.map_nil]
 | t :: l => by simp only [nmPats, nodesPats, List.map_append, Q71 w t, Q64 w l]
end
theorem Qca (w : Bool) (c : Con) : nodesCon (nmCon w c) = (nodesCon c).map (nmNode w) := by
 obtain ⟨s, a, h, t⟩ := c
 cases h <;> simp only [nodesCon, nmCon, cond_true, cond_false, List.map_cons, List.map_nil, nmNode, Q8n]
theorem Q60 (w : Bool) : ∀ l : List Con, nodesCons (nmCons w l) = (nodesCons l).map (nmNode w)
 | [] => by simp only [nmCons, nodesCons, List.map_nil]
 | t :: l => by simp only [nmCons, nodesCons, List.map_append, Qca w t, Q60 w l]
mutual
theorem Q70 (w : Bool) : ∀ t : Exp, nodesExp (nmExp w t) = (nodesExp t).map (nmNode w)
 | .mk k a s n l lb c cb d db => by simp only [nmExp, nodesExp, List.map_cons, List.map_append, nmNode, Q62 w l, Q2E w c, Q61 w true d]
theorem Q62 (w : Bool) : ∀ l : List Exp, nodesExps (nmExps w l) = (nodesExps l).map (nmNode w)
 | [] => by simp only [nmExps, nodesExps, List.map_nil]
 | t :: l => by simp only [nmExps, nodesExps, List.map_append, Q70 w t, Q62 w l]
theorem Q5Z (w : Bool) : ∀ t : Case, nodesCase (nmCase w t) = (nodesCase t).map (nmNode w)
 | .mk p e => by simp only [nmCase, nodesCase, List.map_append, Q71, Q70 w e]
theorem Q2E (w : Bool) : ∀ l : List Case, nodesCases (nmCases w l) = (nodesCases l).map (nmNode w)
 | [] => by simp only [nmCases, nodesCases, List.map_nil]
 | t :: l => by simp only [nmCases, nodesCases, List.map_append, Q5Z w t, Q2E w l]
theorem Qcb (w i : Bool) : ∀ t : Dec, nodesDec i (nmDec w t) = (nodesDec i t).map (nmNode w)
 | .mk k a s p l lb c cb f fb => by simp only [nmDec, nodesDec, List.map_cons, List.map_append, nmNode, Q60, Q2E w c, Q63 w f]
theorem Q61 (w i : Bool) : ∀ l : List Dec, nodesDecs i (nmDecs w l) = (nodesDecs i l).map (nmNode w)
 | [] => by simp only [nmDecs, nodesDecs, List.map_nil]
 | t :: l => by simp only [nmDecs, nodesDecs, List.map_append, Qcb w i t, Q61 w i l]
theorem Qcc (w : Bool) : ∀ t : Fun, nodesFun (nmFun w t) = (nodesFun t).map (nmNode w)
 | .mk s a c => by simp only [nmFun, nodesFun, List.map_cons, nmNode, Q5Z w c]
theorem Q63 (w : Bool) : ∀ l : List Fun, nodesFuns (nmFuns w l) = (nodesFuns l).map (nmNode w)
 | [] => by simp only [nmFuns, nodesFuns, List.map_nil]
 | t :: l => by simp only [nmFuns, nodesFuns, List.map_append, Qcc w t, Q63 w l]
end
def TBad.bare (b : TBad) : TBad := ⟨b.kind, 0, b.name⟩
end Go.Am
namespace Go.Am
open Go
mutual
theorem Q9U : ∀ t : Ty, (nmTy t).size = t.size
 | .mk k n s l b => by simp only [nmTy, Ty.size, Q8m l]
theorem Q8m : ∀ l : List Ty, Ty.sizes (nmTys l) = Ty.sizes l
 | [] => by simp only [nmTys]
 | t :: l => by simp only [nmTys, Ty.sizes, Q9U t, Q8m l]
end
mutual
theorem Q8l (w : Bool) : ∀ t : Pat, (nmPat w t).size = t.size
 | .mk k a s n l b => by simp only [nmPat, Pat.size, Q6Z w l]
theorem Q6Z (w : Bool) : ∀ l : List Pat, Pat.sizes (nmPats w l) = Pat.sizes l
 | [] => by simp only [nmPats]
 | t :: l => by simp only [nmPats, Pat.sizes, Q8l w t, Q6Z w l]
end
theorem Q6V (w : Bool) : ∀ l : List Con, Con.sizes (nmCons w l) = Con.sizes l
 | [] => by simp only [nmCons]
 | t :: l => by simp only [nmCons, Con.sizes, Con.size, nmCon, Q9U, Q6V w l]
mutual
theorem Q8k (w : Bool) : ∀ t : Exp, (nmExp w t).size = t.size
 | .mk k a s n l lb c cb d db => by simp only [nmExp, Exp.size, Q6X w l, Q3n w c, Q6W w d]
theorem Q6X (w : Bool) : ∀ l : List Exp, Exp.sizes (nmExps w l) = Exp.sizes l
 | [] => by simp only [nmExps]
 | t :: l => by simp only [nmExps, Exp.sizes, Q8k w t, Q6X w l]
theorem Q6U (w : Bool) : ∀ t : Case, (nmCase w t).size = t.size
 | .mk p e => by simp only [nmCase, Case.size, Q8l, Q8k w e]
theorem Q3n (w : Bool) : ∀ l : List Case, Case.sizes (nmCases w l) = Case.sizes l
 | [] => by simp only [nmCases]
 | t :: l => by simp only [nmCases, Case.sizes, Q6U w t, Q3n w l]
theorem Qdh (w : Bool) : ∀ t : Dec, (nmDec w t).size = t.size
 | .mk k a s p l lb c cb f fb => by simp only [nmDec, Dec.size, Q6V, Q3n w c, Q6Y w f]
theorem Q6W (w : Bool) : ∀ l : List Dec, Dec.sizes (nmDecs w l) = Dec.sizes l
 | [] => by simp only [nmDecs]
 | t :: l => by simp only [nmDecs, Dec.sizes, Qdh w t, Q6W w l]
theorem Qdi (w : Bool) : ∀ t : Fun, (nmFun w t).size = t.size
 | .mk s a c => by simp only [nmFun, Fun.size, Q6U w c]
theorem Q6Y (w : Bool) : ∀ l : List Fun, Fun.sizes (nmFuns w l) = Fun.sizes l
 | [] => by simp only [nmFuns]
 | t :: l => by simp only [nmFuns, Fun.sizes, Qdi w t, Q6Y w l]
end
end Go.Am
namespace Go.Am
open Go
mutual
theorem Q9A : ∀ t : Ty, deepTy (nmTy t) = deepTy t
 | .mk k n s l b => by simp only [nmTy, deepTy, Q81 l]
theorem Q81 : ∀ (l : List Ty) (n : Int), deepTys (nmTys l) n = deepTys l n
 | [], n => by simp only [nmTys]
 | t :: l, n => by simp only [nmTys, deepTys, Q9A t, Q81 l]
end
mutual
theorem Q4K (w : Bool) : ∀ t : Pat, deepPat (nmPat w t) = deepPat t
 | .mk k a s n l b => by simp only [nmPat, deepPat, Q6K w l]
theorem Q6K (w : Bool) : ∀ (l : List Pat) (n : Int), deepPats (nmPats w l) n = deepPats l n
 | [], n => by simp only [nmPats]
 | t :: l, n => by simp only [nmPats, deepPats, Q4K w t, Q6K w l]
end
theorem Q6G (w : Bool) : ∀ (l : List Con) (n : Int), deepCons (nmCons w l) n = deepCons l n
 | [], n => by simp only [nmCons]
 | t :: l, n => by simp only [nmCons, deepCons, nmCon, Q9A, Q6G w l]
mutual
theorem Q4J (w : Bool) : ∀ t : Exp, deepExp (nmExp w t) = deepExp t
 | .mk k a s n l lb c cb d db => by simp only [nmExp, deepExp, Q6I w l, Q3l w c, Q6H w d]
theorem Q6I (w : Bool) : ∀ (l : List Exp) (n : Int), deepExps (nmExps w l) n = deepExps l n
 | [], n => by simp only [nmExps]
 | t :: l, n => by simp only [nmExps, deepExps, Q4J w t, Q6I w l]
theorem Q3l (w : Bool) : ∀ (l : List Case) (n : Int), deepCases (nmCases w l) n = deepCases l n
 | [], n => by simp only [nmCases]
 | .mk p e :: l, n => by simp only [nmCases, nmCase, deepCases, Q4K, Q4J w e, Q3l w l]
theorem Q6H (w : Bool) : ∀ (l : List Dec) (n : Int), deepDecs (nmDecs w l) n = deepDecs l n
 | [], n => by simp only [nmDecs]
 | .mk k a s p l lb c cb f fb :: r, n => by simp only [nmDecs, nmDec, deepDecs, Q6G, Q3l w c, Q6J w f, Q6H w r]
theorem Q6J (w : Bool) : ∀ (l : List Fun) (n : Int), deepFuns (nmFuns w l) n = deepFuns l n
 | [], n => by simp only [nmFuns]
 | .mk s a c :: l, n => by simp only [nmFuns, nmFun, deepFuns, Qc2 w c, Q6J w l]
theorem Qc2 (w : Bool) : ∀ c : Case, deepCase (nmCase w c) = deepCase c
 | .mk p e => by simp only [nmCase, deepCase, Q4K, Q4J w e]
end
mutual
theorem QcL : ∀ t : Ty, nmTy (nmTy t) = nmTy t
 | .mk k n s l b => by simp only [nmTy, Qbq l]
theorem Qbq : ∀ l : List Ty, nmTys (nmTys l) = nmTys l
 | [] => by simp only [nmTys]
 | t :: l => by simp only [nmTys, QcL t, Qbq l]
end
mutual
theorem Qbp (w : Bool) : ∀ t : Pat, nmPat false (nmPat w t) = nmPat false t
 | .mk k a s n l b => by simp only [nmPat, Qa0 w l, nmAt, cond_false]
theorem Qa0 (w : Bool) : ∀ l : List Pat, nmPats false (nmPats w l) = nmPats false l
 | [] => by simp only [nmPats]
 | t :: l => by simp only [nmPats, Qbp w t, Qa0 w l]
end
theorem Q9W (w : Bool) : ∀ l : List Con, nmCons false (nmCons w l) = nmCons false l
 | [] => by simp only [nmCons]
 | t :: l => by simp only [nmCons, nmCon, QcL, Q9W w l, nmAt, cond_false]
mutual
theorem Qbo (w : Bool) : ∀ t : Exp, nmExp false (nmExp w t) = nmExp false t
 | .mk k a s n l lb c cb d db => by simp only [nmExp, Q9Y w l, Q4V w c, Q9X w d, nmAt, cond_false]
theorem Q9Y (w : Bool) : ∀ l : List Exp, nmExps false (nmExps w l) = nmExps false l
 | [] => by simp only [nmExps]
 | t :: l => by simp only [nmExps, Qbo w t, Q9Y w l]
theorem Q9V (w : Bool) : ∀ t : Case, nmCase false (nmCase w t) = nmCase false t
 | .mk p e => by simp only [nmCase, Qbp, Qbo w e]
theorem Q4V (w : Bool) : ∀ l : List Case, nmCases false (nmCases w l) = nmCases false l
 | [] => by simp only [nmCases]
 | t :: l => by simp only [nmCases, Q9V w t, Q4V w l]
theorem Qfu (w : Bool) : ∀ t : Dec, nmDec false (nmDec w t) = nmDec false t
 | .mk k a s p l lb c cb f fb => by simp only [nmDec, Q9W, Q4V w c, Q9Z w f, nmAt, cond_false]
theorem Q9X (w : Bool) : ∀ l : List Dec, nmDecs false (nmDecs w l) = nmDecs false l
 | [] => by simp only [nmDecs]
 | t :: l => by simp only [nmDecs, Qfu w t, Q9X w l]
theorem Qfv (w : Bool) : ∀ t : Fun, nmFun false (nmFun w t) = nmFun false t
 | .mk s a c => by simp only [nmFun, Q9V w c, nmAt, cond_false]
theorem Q9Z (w : Bool) : ∀ l : List Fun, nmFuns false (nmFuns w l) = nmFuns false l
 | [] => by simp only [nmFuns]
 | t :: l => by simp only [nmFuns, Qfv w t, Q9Z w l]
end
end Go.Am
namespace Go.Proofs.Ytoahliipbclneaa
open Go Go.Am
set_option linter.unusedVariables false
def newD (res : Ty) (vars : Int) (data : Str) (of_ : Int) : List Con → Int → List Place
 | [], _ => []
 | c :: l, tag => conPlace res vars data tag of_ c :: newD res vars data of_ l (tag + 1)
def Fresh : List Con → List Str → Prop
 | [], _ => True
 | c :: l, met => c.name ∉ met ∧ Fresh l (met ++ [c.name])
theorem conBad0 {k : Int} {g : Str → Option Int} {vars tag : Int} {met : List Str} {c : Con} (h : (conBad k g vars tag met c).1 = 0) : c.name ∉ met ∧ (c.has = true → (wrongD g vars c.arg).1 = 0) := by
 unfold conBad at h
 by_cases h1 : c.name ∈ met
 ·rw [if_pos h1] at h; cases h
 ·refine ⟨h1, fun hh => ?_⟩
  rw [if_neg h1] at h
  cases hx : (decide (k = 4) && decide (tag > 1023)) with
  | true => rw [hx, cond_true] at h; cases h
  | false =>
    rw [hx, cond_false, hh, cond_true] at h
    by_cases hw : (wrongD g vars c.arg).1 = 0
    ·exact hw
    ·rw [if_pos hw] at h; exact absurd h hw
theorem Q7p (k : Int) (g : Str → Option Int) (res : Ty) (vars : Int) (data : Str) (of_ : Int) : ∀ (l : List Con) (met : List Str) (tag : Int) (out : List Place), (consD k g res vars data of_ l met tag out).2.kind = 0 →
  consD k g res vars data of_ l met tag out = (out ++ newD res vars data of_ l tag, .zero) ∧ Fresh l met ∧ ∀ c ∈ l, c.has = true → (wrongD g vars c.arg).1 = 0
 | [], met, tag, out, h => ⟨by simp only [consD, newD, List.append_nil], trivial, by simp⟩
 | c :: l, met, tag, out, h => by
   simp only [consD] at h ⊢
   by_cases hz : (conBad k g vars tag met c).1 = 0
   ·rw [if_neg (by simpa using hz)] at h ⊢
    obtain ⟨h1, h2, h3⟩ := Q7p k g res vars data of_ l _ _ _ h
    obtain ⟨h4, h5⟩ := conBad0 hz
    refine ⟨by rw [h1]; simp only [newD, List.append_assoc, List.singleton_append], ⟨h4, h2⟩, fun x hx => ?_⟩
    rcases List.mem_cons.1 hx with rfl | hx
    ·exact h5
    ·exact h3 x hx
   ·rw [if_pos hz] at h; exact absurd h hz
inductive Adds (t : List Place) (d : Dec) : Prop where
 | data (h3 : d.kind = 3) (hk : knownD t d.name = none) (hu : (addD t d).1 = t ++ newD (headD d).1 d.params d.name d.cons.length d.cons 0) (hf : Fresh d.cons (t.map Place.name)) (hw : ∀ c ∈ d.cons, c.has = true → (wrongD (upd (knownD t) d.name d.params) d.params c.arg).1 = 0)
 | exn (h4 : d.kind = 4) (hu : (addD t d).1 = t ++ newD (ofTy sExn []) 0 sExn 0 d.cons (exns t : Nat)) (hf : Fresh d.cons (t.map Place.name)) (hw : ∀ c ∈ d.cons, c.has = true → (wrongD (knownD t) 0 c.arg).1 = 0)
 | other (h3 : d.kind ≠ 3) (h4 : d.kind ≠ 4) (hu : (addD t d).1 = t)
theorem Qgf {t : List Place} {d : Dec} (h : (addD t d).2.kind = 0) : (addD t d).2 = .zero ∧ Adds t d := by
 by_cases h3 : d.kind = 3
 ·have e : addD t d = bif (knownD t d.name).isSome then ([], ⟨9, d.at_, d.name⟩) else consD 3 (upd (knownD t) d.name d.params) (headD d).1 (headD d).2 d.name d.cons.length d.cons (t.map Place.name) 0 t := by simp only [addD, h3, decide_true, cond_true]
  rw [e] at h
  cases hk : (knownD t d.name).isSome with
  | true => rw [hk, cond_true] at h; cases h
  | false =>
    rw [hk, cond_false] at h e
    obtain ⟨h1, h2, h5⟩ := Q7p _ _ _ _ _ _ _ _ _ _ h
    have hh : (headD d).2 = d.params := by simp [headD, h3]
    rw [hh] at h1 h5 e
    exact ⟨by rw [e, h1], .data h3 (by simpa using hk) (by rw [e, h1]) h2 h5⟩
 ·by_cases h4 : d.kind = 4
  ·have hh : headD d = (ofTy sExn [], 0) := by simp [headD, h4]
   have e : addD t d = consD 4 (knownD t) (ofTy sExn []) 0 sExn 0 d.cons (t.map Place.name) (exns t : Nat) t := by simp only [addD, h4, Int.reduceEq, decide_false, decide_true, cond_true, cond_false, hh]
   rw [e] at h
   obtain ⟨h1, h2, h5⟩ := Q7p _ _ _ _ _ _ _ _ _ _ h
   exact ⟨by rw [e, h1], .exn h4 (by rw [e, h1]) h2 h5⟩
  ·have e : addD t d = (t, .zero) := by simp only [addD, decide_eq_false h3, decide_eq_false h4, cond_false]
   exact ⟨by rw [e], .other h3 h4 (by rw [e])⟩
theorem Qbn (res : Ty) (vars : Int) (data : Str) (of_ : Int) : ∀ (l : List Con) (tag : Int), (newD res vars data of_ l tag).length = l.length
 | [], _ => rfl
 | c :: l, tag => by simp only [newD, List.length_cons, Qbn res vars data of_ l]
def cN (c : Con) : Con := ⟨c.name, 0, c.has, bif c.has then ownTy c.arg else .zero⟩
theorem Qdc {t : List Place} {nm : Str} (h : knownD t nm = none) : givenR nm = false ∧ ∀ p ∈ t, p.data ≠ nm := by
 rw [Qem] at h
 cases hg : givenR nm with
 | true => rw [hg] at h; cases h
 | false =>
   rw [hg, cond_false] at h
   refine ⟨rfl, fun p hp e => ?_⟩
   have : ∀ l : List Place, p ∈ l → varsOf nm (dv l) ≠ none := fun l => by
    induction l with
    | nil => intro hh; cases hh
    | cons q l ih =>
      intro hh
      simp only [dv, List.map_cons, varsOf]
      by_cases hq : q.data = nm
      ·rw [if_pos hq]; simp
      ·rw [if_neg hq]
       rcases List.mem_cons.1 hh with rfl | hh
       ·exact absurd e hq
       ·exact ih hh
   exact this t hp h
theorem Qef {nm : Str} (h : givenR nm = false) : nm ≠ sExn := by
 intro e; subst e; revert h; decide
theorem Qi7 {d : Dec} (h : okD d = true) : DecIs d.kind d.name d.params d.cons.length d.case.length d.funs.length false := by
 have hr := Qeu h
 refine Qe0 (inn := false) ?_
 cases d with
 | mk k a s p l lb cs cb f fb => simp only [nodesDec] at hr; exact hr _ List.mem_cons_self
theorem Q9i : ∀ t : Ty, preTy (ownTy t) = (preTy t).map ownTy
 | .mk k n s l b => by simp only [ownTy, preTy, pre_owns l, List.map_cons]
where
 pre_owns : ∀ l : List Ty, preTys (ownTys l) = (preTys l).map ownTy
 | [] => rfl
 | t :: l => by simp only [ownTys, preTys, Q9i t, pre_owns l, List.map_append]
structure Like (d e : Dec) : Prop where
 kind : e.kind = d.kind
 name : e.name = d.name
 params : e.params = d.params
 cons : e.cons = d.cons.map cN
end Go.Proofs.Ytoahliipbclneaa
namespace Go.Proofs.Ytoahliipbclneaa
open Go Go.Am
set_option linter.unusedVariables false
theorem TabEq.refl (t : List Place) : TabEq t t := rfl
theorem Qdm {t : List Place} (h : rightTD t = true) : 6 ≤ t.length ∧ (∀ d ∈ decsD t, okD d = true) ∧ (ofD (decsD t) startD).2.kind = 0 ∧ TabEq t (ofD (decsD t) startD).1 := by
 simp only [rightTD, Bool.and_eq_true, Bool.not_eq_true', decide_eq_false_iff_not, decide_eq_true_eq, List.all_eq_true] at h
 exact ⟨by omega, h.2.1, h.2.2.1, (Q9G _ _).1 h.2.2.2⟩
end Go.Proofs.Ytoahliipbclneaa