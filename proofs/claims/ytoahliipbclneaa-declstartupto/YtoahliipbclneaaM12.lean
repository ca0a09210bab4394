/- A part of the proof: SDecl7, SRef8, SRef11, SRef11b, SRef11c, SKnows, SRef13, PRN, PBare, PTab, SLaw11, LDeclStart. -/
import Derived.Test.YtoahliipbclneaaM6
import Derived.Test.YtoahliipbclneaaM7
import Derived.Test.YtoahliipbclneaaM8
import Derived.Test.YtoahliipbclneaaM9
import Derived.Test.YtoahliipbclneaaM10
import Derived.Test.YtoahliipbclneaaM11
import Derived.Lib.IndexMore
import Derived.Lib.IndexMore
set_option linter.unusedVariables false
set_option linter.unusedSimpArgs false
namespace Go.Proofs.Ytoahliipbclneaa
open Go Go.Am
set_option linter.unusedVariables false
set_option maxRecDepth 4000
theorem Q4F (v : Slot) {s0 s : St} {x : Slot} {ps : List (Dec × Nat)} (h : DA s0 s x ps) (p : Place) (l : Nat) (hd : Holds s l ((mkD p).cons.map Con.enc)) (hl : s0.locs.length ≤ l) (hn : ∀ q ∈ ps, q.2 ≠ l) (hx : ∀ loc, x = .val (.vs loc Qc 7 0 ps.length) → loc ≠ l)
  (N : Nat) (hN : N < 2^27) (hb : ps.length ≤ N ∧ ∀ q ∈ ps, q.1.cons.length ≤ N) (y z : Slot) (i : Nat) (hi : i < 2^40) :
  ∃ x' s' ps', Q0j v x (p.cells.map .val) ((dcell (mkD p, l)).cells.map .val) y z (.val (.int .i64 i)) s = Zf v x' y z (.val (.int .i64 ((i + 1 : Nat) : Int))) s' ∧ DA s0 s' x' ps' ∧ ps'.map Prod.fst = stepD (ps.map Prod.fst) p ∧ (ps'.length ≤ N + 1 ∧ ∀ q ∈ ps', q.1.cons.length ≤ N + 1) := by
 have w1 : IntKind.i64.wrap ((i : Int) + 1) = ((i + 1 : Nat) : Int) := Q2Y (by omega)
 have hone : (mkD p).cons.length = 1 := by unfold mkD; cases decide (p.data = sExn) <;> rfl
 obtain ⟨x', s', e1, a1⟩ := h.push (mkD p) l hd hl hn hx (Qa7 p) (by omega)
 have hb' : (ps ++ [(mkD p, l)]).length ≤ N + 1 ∧ ∀ q ∈ ps ++ [(mkD p, l)], q.1.cons.length ≤ N + 1 := by
  refine ⟨by rw [List.length_append, List.length_singleton]; omega, fun q hq => ?_⟩
  rcases List.mem_append.1 hq with hq | hq
  ·have := hb.2 q hq; omega
  ·simp only [List.mem_singleton] at hq; subst hq; simp only [hone]; omega
 rcases List.eq_nil_or_concat ps with rfl | ⟨qs, ⟨d, l'⟩, rfl⟩
 ·obtain ⟨-, rfl⟩ : ([] : List (Dec × Nat)) = [] ∧ x = .val .nils := by
   rcases h.at_ with h | ⟨h, -⟩
   ·exact h
   ·exact absurd rfl h
  refine ⟨x', s', _, ?_, a1, by simp [Q53], hb'⟩
  rw [Q17]
  have hE := hone
  cases hc : decide (p.data = sExn) with
  | true =>
    have hm : mkD p = exnDec (conD p) := by simp only [mkD, hc, cond_true]
    simp only [hm, dcell, exnDec, Dec.kind, Dec.at_, Dec.name, Dec.params, Dec.cons, List.length_singleton] at e1 ⊢
    simp only [go_sem, Int.reduceEq, Int.reduceGT, Int.reduceNeg, Int.reduceSub, Nat.reduceAdd, Nat.reduceLeDiff, Q0y, Place.cells_eq, List.map_cons, List.map_nil, e1, w1, Int.natCast_zero]
  | false =>
    have hm : mkD p = dataDec p.data p.vars [conD p] := by simp only [mkD, hc, cond_false]
    simp only [hm, dcell, dataDec, Dec.kind, Dec.at_, Dec.name, Dec.params, Dec.cons, List.length_singleton] at e1 ⊢
    simp only [go_sem, Int.reduceEq, Int.reduceGT, Int.reduceNeg, Int.reduceSub, Nat.reduceAdd, Nat.reduceLeDiff, Q0y, Place.cells_eq, List.map_cons, List.map_nil, e1, w1, Int.natCast_zero]
 ·rw [List.concat_eq_append] at *
  obtain ⟨loc, rfl, h1, h2, h3⟩ : ∃ loc, x = .val (.vs loc Qc 7 0 (qs ++ [(d, l')]).length) ∧ s0.locs.length ≤ loc ∧ (∀ q ∈ qs ++ [(d, l')], q.2 ≠ loc) ∧ Holds s loc ((qs ++ [(d, l')]).map dcell) := by
   rcases h.at_ with ⟨h, -⟩ | h
   ·simp at h
   ·exact h.2
  have hlen : (qs ++ [(d, l')]).length = qs.length + 1 := by simp
  have hmem : (d, l') ∈ qs ++ [(d, l')] := by simp
  have hcl : d.cons.length ≤ N := hb.2 _ hmem
  have hql : qs.length < 2^27 := by have := hb.1; omega
  have f0 : IntKind.i64.wrap (((qs.length + 1 : Nat) : Int) - 1) = (qs.length : Int) := QcP (by omega)
  have f1 : ixS 7 (.val (.vs loc Qc 7 0 (qs.length + 1))) (.val (.int .i64 qs.length)) = some (.val (.vp loc (qs.length * 7))) := by
   rw [Qbp (by omega) (by decide), Nat.zero_add]
  have hcells : s.locs[loc]? = some (.var ((flatL (qs.map dcell)).map .val ++ [.val (.int .i64 d.kind), .val (.int .i64 d.at_), .val (.str d.name), .val (.int .i64 d.params), .val (.vs l' Qh 7 0 d.cons.length), .val .nils, .val .nils])) := by
   unfold Holds at h3
   rw [h3, List.map_append, Q3b, List.map_append]; rfl
  have hpl : ((flatL (qs.map dcell)).map Slot.val).length = qs.length * 7 := by rw [List.length_map, Q0A (Q0H qs), List.length_map]
  have f2 : ldV (C.ti Qa) false s (.val (.vp loc (qs.length * 7 + 0))) = some (.val (.int .i64 d.kind)) := by
   rw [Q4T hcells, Nat.add_zero, List.drop_left' hpl]; rfl
  have f3 : ldV (C.ti Q2) false s (.val (.vp loc (qs.length * 7 + 2))) = some (.val (.str d.name)) := by
   rw [Q4T hcells, ← hpl, List.drop_append, List.drop_of_length_le (by omega)]
   rw [show ((flatL (qs.map dcell)).map Slot.val).length + 2 - ((flatL (qs.map dcell)).map Slot.val).length = 2 by omega]; rfl
  have f4 : ldV (C.ti Qq) false s (.val (.vp loc (qs.length * 7 + 4))) = some (.val (.vs l' Qh 7 0 d.cons.length)) := by
   rw [Q4T hcells, ← hpl, List.drop_append, List.drop_of_length_le (by omega)]
   rw [show ((flatL (qs.map dcell)).map Slot.val).length + 4 - ((flatL (qs.map dcell)).map Slot.val).length = 4 by omega]; rfl
  have f5 : decide (((qs.length + 1 : Nat) : Int) > 0) = true := decide_eq_true (by omega)
  have hmap : (qs ++ [(d, l')]).map Prod.fst = qs.map Prod.fst ++ [d] := by simp
  rw [hlen] at e1
  cases hj : joins p d with
  | false =>
    refine ⟨x', s', _, ?_, a1, by rw [hmap, Q3f, hj, cond_false, List.map_append, hmap]; rfl, hb'⟩
    rw [hlen, Q17]
    cases hc : decide (p.data = sExn) with
    | true =>
      have hm : mkD p = exnDec (conD p) := by simp only [mkD, hc, cond_true]
      simp only [hm, dcell, exnDec, Dec.kind, Dec.at_, Dec.name, Dec.params, Dec.cons, List.length_singleton] at e1 ⊢
      simp only [go_sem, Int.reduceEq, Nat.reduceAdd, Nat.reduceLeDiff, Q0y, Place.cells_eq, List.map_cons, List.map_nil, e1, w1]
    | false =>
      have hm : mkD p = dataDec p.data p.vars [conD p] := by simp only [mkD, hc, cond_false]
      simp only [hm, dcell, dataDec, Dec.kind, Dec.at_, Dec.name, Dec.params, Dec.cons, List.length_singleton] at e1
      simp only [joins, hc, Bool.not_false, Bool.true_and] at hj
      have hdc : (dcell (mkD p, l)).cells = [.int .i64 3, .int .i64 0, .str p.data, .int .i64 p.vars, .vs l Qh 7 0 1, .nils, .nils] := by rw [hm]; rfl
      rw [hdc]
      by_cases hk : d.kind = 3
      ·have hnm : decide (d.name = p.data) = false := by simpa [hk] using hj
       simp only [go_sem, Nat.reduceAdd, Nat.reduceLeDiff, Q0y, Place.cells_eq, List.map_cons, List.map_nil, e1, w1, f0, f1, f2, f3, f5, hk, hnm]
      ·simp only [go_sem, Nat.reduceAdd, Nat.reduceLeDiff, Q0y, Place.cells_eq, List.map_cons, List.map_nil, e1, w1, f0, f1, f2, f3, f5, decide_eq_false hk]
  | true =>
    obtain ⟨s1, s2, e2, e3, a2⟩ := h.join (conD p) (by omega)
    refine ⟨_, s2, _, ?_, a2, by rw [hmap, Q3f, hj, cond_true, List.map_append]; rfl, ?_⟩
    ·simp only [joins, Bool.and_eq_true, Bool.not_eq_true', decide_eq_false_iff_not, decide_eq_true_eq] at hj
     obtain ⟨⟨hc, hk⟩, hnm⟩ := hj
     have hm : mkD p = dataDec p.data p.vars [conD p] := by simp only [mkD, decide_eq_false hc, cond_false]
     have hdc : (dcell (mkD p, l)).cells = [.int .i64 3, .int .i64 0, .str p.data, .int .i64 p.vars, .vs l Qh 7 0 1, .nils, .nils] := by rw [hm]; rfl
     have ec := Q4c p s
     simp only [Place.enc, Place.cells_eq] at ec
     have hcn : (conD p).cells.length = 7 := Con.cells_len _
     rw [hdc, hlen, Q17]
     simp only [Con.enc] at e2 ec
     simp only [go_sem, Nat.reduceAdd, Nat.reduceLeDiff, Q0y, Place.cells_eq, List.map_cons, List.map_nil, w1, f0, f1, f2, f3, f4, f5, hk, hnm, decide_true, ec, hcn, e2, e3, List.length_append, List.length_singleton]
    ·refine ⟨by rw [List.length_append, List.length_singleton]; have := hb.1; rw [hlen] at this; omega, fun q hq => ?_⟩
     rcases List.mem_append.1 hq with hq | hq
     ·have := hb.2 q (List.mem_append_left _ hq); omega
     ·simp only [List.mem_singleton] at hq; subst hq
      simp only [addCon, Dec.cons, List.length_append, List.length_singleton]
      have hcl : d.cons.length ≤ N := hcl
      simp only [Dec.cons] at hcl
      omega
theorem Qc3 {e : TypeId} {t : TI} {v : AV} (s : St) (h : v.cells.length = t.size) (ht : v.isTup = false) (hb : t.bytes ≤ 2^16) : bslV e t s [.val v] = some (.val (.vs s.locs.length e t.size 0 1), s.addLoc (.var ((flatL [v]).map .val))) := by
 unfold bslV
 simp only [Qc2 h ht, Qc1, Option.map_some, newV]
 rw [if_pos ⟨by simp only [List.length_singleton]; omega, by simp⟩]; rfl
theorem Q1Y (v : Slot) (T : List Place) (y : Slot) (hy : y.list? = some (T.map Place.enc)) (hT : T.length < 2^26) (s0 : St) : ∀ (suf pre : List Place) (x : Slot) (s : St) (ps : List (Dec × Nat)) (i : Nat), pre ++ suf = T → i = pre.length → DA s0 s x ps → (ps.length ≤ i ∧ ∀ q ∈ ps, q.1.cons.length ≤ i) →
  ∃ s', Zf v x y (.val (.int .i64 T.length)) (.val (.int .i64 i)) s = Zz v (.val (encS true ((suf.foldl stepD (ps.map Prod.fst)).map Dec.enc))) (.val (encS true ((suf.foldl stepD (ps.map Prod.fst)).map Dec.enc))) (.val (.int .i64 ((suf.foldl stepD (ps.map Prod.fst)).length : Nat))) (.val (.int .i64 0)) s' ∧ Grew s0 s'
 | [], pre, x, s, ps, i, hp, hi, h, hb => by
   subst hi
   obtain ⟨s', e1, g1⟩ := h.frz
   refine ⟨s', ?_, g1⟩
   rw [Q2F]
   simp only [go_sem, Nat.reduceAdd, Nat.reduceLeDiff, Qd (show pre = T by simpa using hp), e1, List.foldl_nil, List.length_map]
 | p :: suf, pre, x, s, ps, i, hp, hi, h, hb => by
   subst hi
   have hlt : pre.length < T.length := by rw [← hp]; simp
   obtain ⟨f1, f2, f3⟩ := Q8 hy hp (by omega) (Place.cells_len p) (by decide)
   have e1 := Qc3 (e := Qh) (t := C.ti Qh) (v := (conD p).enc) s (by rw [Z4]; exact Con.cells_len _) rfl (by rw [Q5p]; decide)
   rw [Z4] at e1
   have ec := Q4c p s
   have g1 : Grew s (s.addLoc (.var ((flatL [(conD p).enc]).map .val))) := (Grew.refl s).addLoc _
   have hnew := Q7W s [(conD p).enc]
   have hone : (mkD p).cons = [conD p] := by unfold mkD; cases decide (p.data = sExn) <;> rfl
   have h' : DA s0 (s.addLoc (.var ((flatL [(conD p).enc]).map .val))) x ps := ⟨h.grew.trans g1, by
    rcases h.at_ with h | ⟨h0, loc, h1, h2, h3, h4⟩
    ·exact .inl h
    ·exact .inr ⟨h0, loc, h1, h2, h3, h4.move g1⟩, h.ge, h.nd, fun q hq => (h.hold q hq).move g1, h.form⟩
   obtain ⟨x', s', ps', e2, a2, hm, hb2⟩ := Q4F v h' p s.locs.length (by rw [hone]; exact hnew) h.grew.locsLe (fun q hq => Nat.ne_of_lt (h.hold q hq).lt) (fun loc hl => by
    rcases h.at_ with ⟨-, h⟩ | ⟨h0, loc', h1, h2, h3, h4⟩
    ·rw [h] at hl; simp at hl
    ·rw [h1] at hl
     obtain rfl : loc' = loc := by injection hl with hl; injection hl
     exact Nat.ne_of_lt h4.lt) pre.length (by omega) hb y (.val (.int .i64 T.length)) pre.length (by omega)
   obtain ⟨s3, e3, g3⟩ := Q1Y v T y hy hT s0 suf (pre ++ [p]) x' s' ps' (pre.length + 1) (by simpa using hp) (by simp) a2 hb2
   refine ⟨s3, ?_, g3⟩
   rw [List.foldl_cons, ← hm, ← e3, ← e2]
   rw [Q2F]
   simp only [Place.enc, Place.cells_eq, Con.enc] at ec e1
   cases hc : decide (p.data = sExn) with
   | true =>
     have hdc : (dcell (mkD p, s.locs.length)).cells = [.int .i64 4, .int .i64 0, .str [], .int .i64 0, .vs s.locs.length Qh 7 0 1, .nils, .nils] := by simp only [mkD, hc, cond_true]; rfl
     have hc' : decide (p.data = [101, 120, 110]) = true := hc
     rw [hdc]
     simp only [go_sem, Nat.reduceAdd, Nat.reduceLeDiff, f1, f2, Place.cells_eq, List.map_cons, List.map_nil, ec, e1, hc']
   | false =>
     have hdc : (dcell (mkD p, s.locs.length)).cells = [.int .i64 3, .int .i64 0, .str p.data, .int .i64 p.vars, .vs s.locs.length Qh 7 0 1, .nils, .nils] := by simp only [mkD, hc, cond_false]; rfl
     have hc' : decide (p.data = [101, 120, 110]) = false := hc
     rw [hdc]
     simp only [go_sem, Nat.reduceAdd, Nat.reduceLeDiff, f1, f2, Place.cells_eq, List.map_cons, List.map_nil, ec, e1, hc']
theorem Q7t (p q : Place) (h : WideTy p.ty) (s : St) : cw (.f Q0T) [p.enc, q.enc] s = some (.ret (.val (.bool (eqPl p q))), s) := by
 have e1 := fun s => Q9p p.ty h q.ty s
 simp only [Ty.enc, Ty.cells_eq] at e1
 rw [Q8K]
 simp only [go_sem, Nat.reduceAdd, Nat.reduceLeDiff, Place.enc, Place.cells_eq, List.map_cons, List.map_nil, e1]
 rfl
theorem Q0a (t u : List Place) (x y : Slot) (hx : x.list? = some (t.map Place.enc)) (hy : y.list? = some (u.map Place.enc)) (hl : t.length < 2^40) (he : t.length = u.length) (hw : ∀ p ∈ t, WideTy p.ty) (s : St) : ∀ (suf suf' pre pre' : List Place) (i : Nat), pre ++ suf = t → pre' ++ suf' = u → i = pre.length → pre'.length = pre.length →
  Qj y (.val (.fn Q0T [])) x (.val (.int .i64 t.length)) (.val (.int .i64 i)) s = some (.ret (.val (.bool (eqTab suf suf'))), s)
 | [], suf', pre, pre', i, hp, hp', hi, hi' => by
   subst hi
   have : suf' = [] := by
    have h1 : t.length = pre.length := by rw [← hp]; simp
    have h2 : u.length = pre'.length + suf'.length := by rw [← hp']; simp
    exact List.eq_nil_of_length_eq_zero (by omega)
   subst this
   rw [QH]; simp only [go_sem, Qd (show pre = t by simpa using hp), eqTab]
 | p :: suf, [], pre, pre', i, hp, hp', hi, hi' => by
   have h1 : t.length = pre.length + (suf.length + 1) := by rw [← hp]; simp
   have h2 : u.length = pre'.length := by rw [← hp']; simp
   omega
 | p :: suf, q :: suf', pre, pre', i, hp, hp', hi, hi' => by
   subst hi
   obtain ⟨f1, f2, f3⟩ := Q8 hx hp (by omega) (Place.cells_len p) (by decide)
   obtain ⟨f4, f5, f6⟩ := Q8 hy hp' (by omega) (Place.cells_len q) (by decide)
   rw [hi'] at f5
   have ih := Q0a t u x y hx hy hl he hw s suf suf' (pre ++ [p]) (pre' ++ [q]) (pre.length + 1) (by simpa using hp) (by simpa using hp') (by simp) (by simp [hi'])
   have e1 := Q7t p q (hw p (by rw [← hp]; simp)) s
   simp only [Place.enc, Place.cells_eq] at e1
   rw [QH]
   cases e : eqPl p q with
   | true =>
     rw [e] at e1
     simp only [go_sem, Nat.reduceAdd, Nat.reduceLeDiff, f1, f2, f3, f5, Place.cells_eq, List.map_cons, List.map_nil, e1, Bool.not_true, ih, eqTab, e, Bool.true_and]
   | false =>
     rw [e] at e1
     simp only [go_sem, Nat.reduceAdd, Nat.reduceLeDiff, f1, f2, f3, f5, Place.cells_eq, List.map_cons, List.map_nil, e1, Bool.not_false, eqTab, e, Bool.false_and]
theorem Q24 (t u : List Place) (v w : AV) (hv : (Slot.val v).list? = some (t.map Place.enc)) (hw' : (Slot.val w).list? = some (u.map Place.enc)) (hl : t.length < 2^40) (hw : ∀ p ∈ t, WideTy p.ty) (s : St) :
  cw (.f Qn) [v, w, .fn Q0T []] s = some (.ret (.val (.bool (eqTab t u))), s) := by
 rw [ZO]
 by_cases he : t.length = u.length
 ·have e1 := Q0a t u (.val v) (.val w) hv hw' hl he hw s t u [] [] 0 rfl rfl rfl rfl
  rw [show ((0 : Nat) : Int) = 0 from rfl] at e1
  have he' : decide ((t.length : Int) = (u.length : Int)) = true := by simp only [decide_eq_true_eq]; omega
  simp only [go_sem, hv, hw', List.length_map, he', Bool.not_true, e1]
 ·have he' : decide ((t.length : Int) = (u.length : Int)) = false := by simp only [decide_eq_false_iff_not]; omega
  have : eqTab t u = false := by
   cases h : eqTab t u with
   | false => rfl
   | true => exact absurd (Q4J h) he
  simp only [go_sem, hv, hw', List.length_map, he', Bool.not_false, this]
structure TabOK (t : List Place) : Prop where
 size : Place.sizes t < 2^22
 ok : ∀ p ∈ t, PlaceOK p
theorem TabOK.wide {t : List Place} (h : TabOK t) : ∀ p ∈ t, WideTy p.ty := fun p hp => Q1C _ (by have := Place.mem_sizes hp; have := h.size; omega)
theorem TabOK.len {t : List Place} (h : TabOK t) : t.length < 2^22 := Nat.lt_of_le_of_lt (Place.len_sizes t) h.size
theorem Qdw {d : Dec} (hs : d.size < 2^24) (h : okD d = true) : DecFit d := by
 simp only [okD, decide_eq_true_eq] at h
 exact Qbc (P := [d]) (by simp only [Dec.sizes]; omega) (QaJ.1 h) d (by simp)
theorem Q1Z (t : List Place) (ht : TabOK t) (v : AV) (hv : (Slot.val v).list? = some (t.map Place.enc)) (P : List Dec) (hs : Dec.sizes P < 2^24) (hg : ∀ d ∈ P, DGood d) : ∀ (suf pre : List Dec) (s : St) (i : Nat), pre ++ suf = P → i = pre.length → (∀ d ∈ pre, okD d = true) →
  Ret (Zz (.val v) (.val (encS true (P.map Dec.enc))) (.val (encS true (P.map Dec.enc))) (.val (.int .i64 P.length)) (.val (.int .i64 i)) s) s (.bool (suf.all okD && (decide ((ofD P startD).2.kind = 0) && eqTab t (ofD P startD).1)))
 | [], pre, s, i, hp, hi, hk => by
   subst hi
   have hpP : pre = P := by simpa using hp
   subst hpP
   obtain ⟨s1, w, e1, hw, g1⟩ := Q8J pre true (fun d hd => Qdw (by have := Dec.mem_sizes hd; omega) (hk d hd)) (by omega) s
   have e2 := Q24 t (ofD pre startD).1 v w hv hw (by have := ht.len; omega) ht.wide s1
   refine ⟨s1, ?_, g1⟩
   rw [Q2G]
   simp only [TBad.enc, TBad.cells] at e1
   simp only [go_sem, Nat.reduceAdd, Nat.reduceLeDiff, Qd rfl, e1, TBad.cells, List.map_cons, List.map_nil, e2, List.all_nil, Bool.true_and]
 | d :: suf, pre, s, i, hp, hi, hk => by
   subst hi
   obtain ⟨f1, f2, f3⟩ := Q8 (x := .val (encS true (P.map Dec.enc))) (Qk _ _) hp (by have := Dec.len_sizes P; omega) (Dec.cells_len d) (by decide)
   have hd : d ∈ P := by rw [← hp]; simp
   obtain ⟨s1, e1, g1⟩ := Q71 [d] false s (by have := Dec.mem_sizes hd; simp only [Dec.sizes]; omega) (Qdn (hg d hd))
   rw [Q2G]
   simp only [TBad.enc, TBad.cells, List.map_cons, List.map_nil, Q2o, Dec.enc, Dec.cells_eq] at e1
   cases h : okD d with
   | true =>
     obtain ⟨s2, e2, g2⟩ := Q1Z t ht v hv P hs hg suf (pre ++ [d]) s1 (pre.length + 1) (by simpa using hp) (by simp) (fun q hq => by
      rcases List.mem_append.1 hq with hq | hq
      ·exact hk q hq
      ·simp only [List.mem_singleton] at hq; subst hq; exact h)
     have h' : decide ((rightN (nodesDecs false [d]) (deepDecs [d] 0)).kind = 0) = true := h
     refine ⟨s2, ?_, g1.trans g2⟩
     simp only [go_sem, Nat.reduceAdd, Nat.reduceLeDiff, f1, f2, f3, Dec.cells_eq, List.map_cons, List.map_nil, e1, h', Bool.not_true, List.all_cons, h, Bool.true_and]
     exact e2
   | false =>
     have h' : decide ((rightN (nodesDecs false [d]) (deepDecs [d] 0)).kind = 0) = false := h
     refine ⟨s1, ?_, g1⟩
     simp only [go_sem, Nat.reduceAdd, Nat.reduceLeDiff, f1, f2, f3, Dec.cells_eq, List.map_cons, List.map_nil, e1, h', Bool.not_false, List.all_cons, h, Bool.false_and]
theorem Q34 (t : List Place) (ht : TabOK t) (v : AV) (hv : (Slot.val v).list? = some (t.map Place.enc)) (s : St) : Ret (cw (.f Zr) [v] s) s (.bool (rightTD t)) := by
 obtain ⟨s1, e1, g1⟩ := Q0w s
 have hlen := ht.len
 have h6 : ((startD.length : Nat) : Int) = 6 := rfl
 rw [Q8h]
 by_cases h : (t.length : Int) < 6
 ·refine ⟨s1, ?_, g1⟩
  simp only [go_sem, e1, hv, List.length_map, h6, h, decide_true, rightTD, Bool.not_true, Bool.false_and]
 ·have hd : (t.drop 6).length < 2^26 := by rw [List.length_drop]; omega
  obtain ⟨w, e0, hw⟩ := QaL (t := C.ti QG) QaY hv (sz := 10) (fun x hx => by
   obtain ⟨p, _, rfl⟩ := List.mem_map.1 hx
   exact Place.cells_len p) (by decide) (lo := some (.val (.int .i64 ((6 : Nat) : Int)))) (hi := none) rfl (Qb5 (by rw [List.length_map]; omega))
  rw [List.take_length, ← List.map_drop] at hw
  rw [show ((6 : Nat) : Int) = 6 from rfl] at e0
  obtain ⟨s2, e2, g2⟩ := Q1Y (.val v) (t.drop 6) (.val w) hw hd s1 (t.drop 6) [] (.val .nils) s1 [] 0 rfl rfl ⟨.refl _, .inl ⟨rfl, rfl⟩, by simp, by simp, by simp, by simp⟩ (by simp)
  obtain ⟨s3, e3, g3⟩ := Q1Z t ht v hv (decsD t) (by have := Qay t; have := ht.size; omega) (Qax ht.ok) (decsD t) [] s2 0 rfl rfl (by simp)
  rw [show ((0 : Nat) : Int) = 0 from rfl] at e2 e3
  refine ⟨s3, ?_, (g1.trans g2).trans g3⟩
  simp only [go_sem, e1, hv, List.length_map, h6, h, decide_false, e0, hw, rightTD, Bool.not_false, Bool.true_and]
  rw [e2]
  exact e3
end Go.Proofs.Ytoahliipbclneaa
namespace Go.Am
open Go
@[go_sem] theorem QkJ (b : Bool) (sz : Nat) (x : Slot) (r : List Slot) : gd b (fullO (bslS sz (gdV b x :: r))) = gd b (fullO (bslS sz (x :: r))) := by cases b <;> rfl
end Go.Am
namespace Go.Proofs.Ytoahliipbclneaa
open Go Go.Am
set_option linter.unusedVariables false
set_option maxRecDepth 4000
theorem QdB {α : Type} {L M pre pre' suf' : List α} (h : pre ++ [] = L) (g : pre' ++ suf' = M) (hp : pre'.length = pre.length) (he : M.length = L.length) : suf' = [] := by
 have h1 := congrArg List.length h
 have h2 := congrArg List.length g
 simp only [List.length_append, List.length_nil] at h1 h2
 exact List.eq_nil_of_length_eq_zero (by omega)
theorem QcE {α : Type} {L M pre pre' suf suf' : List α} {t : α} (h : pre ++ t :: suf = L) (g : pre' ++ suf' = M) (hp : pre'.length = pre.length) (he : M.length = L.length) : ∃ u r, suf' = u :: r := by
 have h1 := congrArg List.length h
 have h2 := congrArg List.length g
 simp only [List.length_append, List.length_cons] at h1 h2
 cases suf' with
 | nil => simp only [List.length_nil] at h2; omega
 | cons u r => exact ⟨u, r, rfl⟩
def RSameTy (t : Ty) : Prop := ∀ u s, cw (.f ZU) [t.enc, u.enc] s = some (.ret (.val (.bool (eqTy t u))), s)
theorem Q4l (t u : Ty) (hl : t.args.length < 2^40) (he : u.args.length = t.args.length) : ∀ (suf suf' pre pre' : List Ty) (s : St) (i : Nat), pre ++ suf = t.args → pre' ++ suf' = u.args → i = pre.length → pre'.length = pre.length → (∀ t ∈ suf, RSameTy t) →
  ZH (t.cells.map .val) (u.cells.map .val) (.val (.int .i64 i)) s = some (.ret (.val (.bool (eqTys suf suf'))), s)
 | [], suf', pre, pre', s, i, h, g, hi, hp, H => by
   subst hi
   obtain rfl := QdB h g hp he
   rw [Q23]; simp only [go_sem, Nat.reduceAdd, Nat.reduceLeDiff, Ty.cells_eq, Qd (by simpa using h), eqTys]
 | x :: suf, suf', pre, pre', s, i, h, g, hi, hp, H => by
   subst hi
   obtain ⟨y, suf', rfl⟩ := QcE h g hp he
   obtain ⟨f1, f2, f3⟩ := Q8 (x := .val (encS t.nl (t.args.map Ty.enc))) (Qk _ _) h (by omega) (Ty.cells_len x) (by decide)
   obtain ⟨-, g2, -⟩ := Q8 (x := .val (encS u.nl (u.args.map Ty.enc))) (Qk _ _) g (by omega) (Ty.cells_len y) (by decide)
   rw [hp] at g2
   have e1 := H x (List.mem_cons_self) y s
   have ih := Q4l t u hl he suf suf' (pre ++ [x]) (pre' ++ [y]) s (pre.length + 1) (by simpa using h) (by simpa using g) (by simp) (by simp [hp]) (fun w hw => H w (List.mem_cons_of_mem _ hw))
   rw [Q23]; rw [Ty.cells_eq, Ty.cells_eq] at ih ⊢; simp only [go_sem, Nat.reduceAdd, Nat.reduceLeDiff, f1, f2, f3, g2, e1] at ih ⊢
   simp only [go_sem, ih, eqTys]
   cases eqTy x y <;> rfl
theorem Q52 : ∀ (m : Nat) (t : Ty), t.size ≤ m → t.size < 2^40 → RSameTy t
 | 0, .mk _ _ _ _ _, h, _ => by simp only [Ty.size] at h; omega
 | m + 1, .mk k n nm l nl, h, h' => fun u s => by
   obtain ⟨k', n', nm', l', nl'⟩ := u
   simp only [Ty.size] at h h'
   have hl := Ty.len_sizes l
   rw [Q6W]
   by_cases he : l'.length = l.length
   ·have e1 := Q4l (.mk k n nm l nl) (.mk k' n' nm' l' nl') (by simp only [Ty.args]; omega) he l l' [] [] s 0 rfl rfl rfl rfl (fun t ht => by have := Ty.mem_sizes ht; exact Q52 m t (by omega) (by omega))
    simp only [go_sem] at e1
    rw [show ((0 : Nat) : Int) = 0 from rfl] at e1
    simp only [go_sem, Nat.reduceAdd, Nat.reduceLeDiff, Ty.enc, e1, eqTy, decide_eq_true (show ((l.length : Int) = l'.length) by omega)]
    generalize decide (k = k') = b1
    generalize decide (n = n') = b2
    generalize decide (nm = nm') = b3
    cases b1 <;> cases b2 <;> cases b3 <;> rfl
   ·simp only [go_sem, Nat.reduceAdd, Nat.reduceLeDiff, Ty.enc, eqTy, Q4K l l' (fun h => he h.symm), decide_eq_false (show ¬ ((l.length : Int) = l'.length) by omega)]
end Go.Proofs.Ytoahliipbclneaa
namespace Go.Proofs.Ytoahliipbclneaa
open Go Go.Am
set_option linter.unusedVariables false
set_option maxRecDepth 4000
theorem Q67 (nm : Str) (s : St) : cw (.f Q29) [.str nm] s = some (.ret (.val (ofTy nm []).enc), s) := by
 rw [Q7y]; simp only [go_sem, Nat.reduceAdd, Nat.reduceLeDiff, ofTy, Ty.enc, Ty.cells_mk, List.map_nil, Q18]
def TabFit (t : List Place) : Prop := t.length < 2^26 ∧ ∀ p ∈ t, p.ty.size < 2^27
theorem TabFit.wide {t : List Place} (h : TabFit t) : ∀ p ∈ t, WideTy p.ty := fun p hp => Q1C _ (by have := h.2 p hp; omega)
end Go.Proofs.Ytoahliipbclneaa
namespace Go.Proofs.Ytoahliipbclneaa
open Go Go.Am
set_option linter.unusedVariables false
set_option maxRecDepth 4000
section
variable (t : List Place) (d : Dec) (v : AV) (s0 : St)
theorem TabFit.own {t : List Place} (h : TabFit t) : TabFit (t.map ownP) := ⟨by rw [List.length_map]; exact h.1, fun p hp => by
 obtain ⟨q, hq, rfl⟩ := List.mem_map.1 hp
 simp only [ownP, Q6P]; exact h.2 q hq⟩
end
theorem Q2N (s0 : St) (x1 x2 x3 x4 : Slot) (h1 : x1.list? = some (startD.map fun p => .str p.name)) (h2 : x2.list? = some (startD.map fun p => .str p.data)) (h3 : x3.list? = some (startD.map fun p => .int .i64 p.tag)) (h4 : x4.list? = some (startD.map fun p => .int .i64 p.of_)) : ∀ (suf pre : List Place) (x : Slot) (s : St) (i : Nat), AccR Q5 s0 s x (pre.map Place.enc) → pre ++ suf = startD → i = pre.length →
  RetA (Q04 x1 x2 x3 x4 x (.val (.int .i64 i)) s) Q5 s0 (startD.map Place.enc)
 | [], pre, x, s, i, ha, hp, hi => by
   subst hi
   have : pre = startD := by simpa using hp
   have h6 : decide ((pre.length : Int) < 6) = false := by rw [this]; rfl
   refine ⟨x, s, ?_, by rw [← this]; exact ha⟩
   rw [Q2f]; simp only [go_sem, h6]
 | p :: suf, pre, x, s, i, ha, hp, hi => by
   subst hi
   obtain ⟨f1, f2, f3⟩ := Q8 (f := fun p : Place => AV.str p.name) h1 hp (by decide) (sz := 1) rfl (by decide)
   obtain ⟨-, f4, -⟩ := Q8 (f := fun p : Place => AV.str p.data) h2 hp (by decide) (sz := 1) rfl (by decide)
   obtain ⟨-, f5, -⟩ := Q8 (f := fun p : Place => AV.int .i64 p.tag) h3 hp (by decide) (sz := 1) rfl (by decide)
   obtain ⟨-, f6, -⟩ := Q8 (f := fun p : Place => AV.int .i64 p.of_) h4 hp (by decide) (sz := 1) rfl (by decide)
   have hl6 : (startD.length : Int) = 6 := rfl
   rw [hl6] at f1
   have hpm : p ∈ startD := by rw [← hp]; simp
   have hps : p = placeD p.name p.data p.tag p.of_ := by
    simp only [startD, List.mem_cons, List.not_mem_nil, or_false] at hpm
    rcases hpm with rfl | rfl | rfl | rfl | rfl | rfl <;> rfl
   have e1 := Q67 p.data s
   obtain ⟨x', s', e2, a2⟩ := placeAcc ha p (by have : (pre ++ p :: suf).length = 6 := by rw [hp]; rfl
                                                simp only [List.length_append, List.length_cons] at this; omega)
   have ih := Q2N s0 x1 x2 x3 x4 h1 h2 h3 h4 suf (pre ++ [p]) x' s' (pre.length + 1) a2 (by simpa using hp) (by simp)
   rw [hps] at e2
   simp only [placeD, ofTy, List.map_nil, Place.enc, Place.cells, Ty.cells_mk, Q18] at e2
   simp only [ofTy, List.map_nil, Ty.enc, Ty.cells_mk, Q18] at e1
   rw [Q2f]
   simp only [go_sem, Nat.reduceAdd, Nat.reduceLeDiff, f1, f2, f3, f4, f5, f6, e1, e2]
   exact ih
theorem Q66 (s : St) : RetA (cw (.f Q15) [] s) Q5 s (startD.map Place.enc) := by
 have e1 := Q2N s (.full (startD.map fun p => .str p.name)) (.full (startD.map fun p => .str p.data)) (.full (startD.map fun p => .int .i64 p.tag)) (.full (startD.map fun p => .int .i64 p.of_)) rfl rfl rfl rfl startD [] (.val .nils) s 0 (AccR.nil _ _) rfl rfl
 rw [show ((0 : Nat) : Int) = 0 from rfl] at e1
 rw [Q7x]
 simp only [go_sem, Nat.reduceAdd]
 exact e1
end Go.Proofs.Ytoahliipbclneaa
namespace Go.Proofs.Ytoahliipbclneaa
open Go Go.Am
set_option linter.unusedVariables false
set_option maxRecDepth 4000
theorem QaM : ∀ p ∈ startD, p.ty.size < 2^27 := by
 intro p hp
 simp only [startD, List.mem_cons, List.not_mem_nil, or_false] at hp
 rcases hp with rfl | rfl | rfl | rfl | rfl | rfl <;> simp [placeD, ofTy, Ty.size, Ty.sizes]
end Go.Proofs.Ytoahliipbclneaa
namespace Go.Am
open Go
@[go_sem] theorem QgP {l : List AV} {off sz : Nat} {m : List AV} (h : sz = 1) (k : off + 1 ≤ l.length) (r : List (Nat × Nat × Slot)) : fillS l ((off, sz, .full m) :: r) = fillS (l.take off ++ ([.sl m] ++ l.drop (off + 1))) r := by
  subst h
  exact QaA (x := .full m) (v := .sl m) rfl rfl rfl k r
end Go.Am
namespace Go.Proofs.Ytoahliipbclneaa
open Go Go.Am
set_option linter.unusedVariables false
set_option maxRecDepth 4000
theorem eqBad (a b a' b' : Int) (c c' : Str) : eqS (C.ti Q6) (.agg [.int .i64 a, .int .i64 b, .str c]) (.agg [.int .i64 a', .int .i64 b', .str c']) = some (decide (TBad.mk a b c = TBad.mk a' b' c')) := by
 unfold eqS
 simp only [QcW, Qao]
 have e1 : (a == a') = decide (a = a') := by rw [Bool.eq_iff_iff]; simp
 have e2 : (b == b') = decide (b = b') := by rw [Bool.eq_iff_iff]; simp
 have e3 : (c == c') = decide (c = c') := by rw [Bool.eq_iff_iff]; simp
 by_cases h1 : a = a' <;> by_cases h2 : b = b' <;> by_cases h3 : c = c' <;> simp [eqAll, TK.has, AV.eqb, e1, e2, e3, h1, h2, h3]
theorem Qau (a b a' b' : Int) (c c' : Str) : binS (C.ti Q6) .eql (.val (.agg [.int .i64 a, .int .i64 b, .str c])) (.val (.agg [.int .i64 a', .int .i64 b', .str c'])) = some (.val (.bool (decide (TBad.mk a b c = TBad.mk a' b' c')))) := by
 unfold binS
 simp only [ZY, eqBad]
 rfl
@[go_sem] theorem Q9D (a b : Int) (c : Str) : binS (C.ti Q6) .eql (.val (.agg [.int .i64 a, .int .i64 b, .str c])) (.val (.agg [.int .i64 a, .int .i64 b, .str c])) = some (.val (.bool true)) := by
  rw [Qau, decide_eq_true rfl]
def kE1 : Exp := .mk 4 0 [] 0 [.mk 1 0 [] 1 [] true [] true [] true] false [] true [] true
def kP : Pat := .mk 6 0 [120] 0 [.mk 2 0 [121] 0 [] true] false
def kE2 : Exp := .mk 2 4 [78, 105, 108] 0 [] true [] true [] true
def kD : List Dec := [.mk 1 0 [] 0 [] true [.mk kP kE1] false [] true]
theorem k1 : rightN (nodesExp kE1) (deepExp kE1) = ⟨19, 0, []⟩ := by decide +kernel
theorem k2 : rightN (nodesExp kE2) (deepExp kE2) = ⟨8, 4, [78, 105, 108]⟩ := by decide +kernel
theorem k3 : countN (nodesDecs false kD) = 5 := by decide +kernel
theorem k4 : varsPat kP = [[120], [121]] := by decide +kernel
end Go.Proofs.Ytoahliipbclneaa
namespace Go.Proofs.Ytoahliipbclneaa
open Go Go.Am
set_option linter.unusedVariables false
set_option maxRecDepth 4000
theorem Q1y (p q : Place) (h : p.ty.size < 2^40) (s : St) : cw (.f ZP) [p.enc, q.enc] s = some (.ret (.val (.bool (eqPl p q))), s) := by
 have e1 := fun s => Q52 _ p.ty (Nat.le_refl _) h q.ty s
 simp only [Ty.enc, Ty.cells_eq] at e1
 rw [Q51]
 simp only [go_sem, Nat.reduceAdd, Nat.reduceLeDiff, Place.enc, Place.cells_eq, List.map_cons, List.map_nil, e1]
 rfl
theorem Q3e (t u : List Place) (x y : Slot) (hx : x.list? = some (t.map Place.enc)) (hy : y.list? = some (u.map Place.enc)) (hl : t.length < 2^40) (he : t.length = u.length) (hw : ∀ p ∈ t, p.ty.size < 2^40) (s : St) : ∀ (suf suf' pre pre' : List Place) (i : Nat), pre ++ suf = t → pre' ++ suf' = u → i = pre.length → pre'.length = pre.length →
  Q0l x y (.val (.int .i64 i)) s = some (.ret (.val (.bool (eqTab suf suf'))), s)
 | [], suf', pre, pre', i, hp, hp', hi, hi' => by
   subst hi
   have : suf' = [] := by
    have h1 : t.length = pre.length := by rw [← hp]; simp
    have h2 : u.length = pre'.length + suf'.length := by rw [← hp']; simp
    exact List.eq_nil_of_length_eq_zero (by omega)
   subst this
   rw [Q2M]; simp only [go_sem, hx, List.length_map, Qd (show pre = t by simpa using hp), eqTab]
 | p :: suf, [], pre, pre', i, hp, hp', hi, hi' => by
   have h1 : t.length = pre.length + (suf.length + 1) := by rw [← hp]; simp
   have h2 : u.length = pre'.length := by rw [← hp']; simp
   omega
 | p :: suf, q :: suf', pre, pre', i, hp, hp', hi, hi' => by
   subst hi
   obtain ⟨f1, f2, f3⟩ := Q8 hx hp (by omega) (Place.cells_len p) (by decide)
   obtain ⟨f4, f5, f6⟩ := Q8 hy hp' (by omega) (Place.cells_len q) (by decide)
   rw [hi'] at f5
   have ih := Q3e t u x y hx hy hl he hw s suf suf' (pre ++ [p]) (pre' ++ [q]) (pre.length + 1) (by simpa using hp) (by simpa using hp') (by simp) (by simp [hi'])
   have e1 := Q1y p q (hw p (by rw [← hp]; simp)) s
   simp only [Place.enc, Place.cells_eq] at e1
   rw [Q2M]
   cases e : eqPl p q with
   | true =>
     rw [e] at e1
     simp only [go_sem, Nat.reduceAdd, Nat.reduceLeDiff, hx, List.length_map, f1, f2, f3, f5, Place.cells_eq, List.map_cons, List.map_nil, e1, Bool.not_true, ih, eqTab, e, Bool.true_and]
   | false =>
     rw [e] at e1
     simp only [go_sem, Nat.reduceAdd, Nat.reduceLeDiff, hx, List.length_map, f1, f2, f3, f5, Place.cells_eq, List.map_cons, List.map_nil, e1, Bool.not_false, eqTab, e, Bool.false_and]
theorem Q6X (t u : List Place) (v w : AV) (hv : (Slot.val v).list? = some (t.map Place.enc)) (hw' : (Slot.val w).list? = some (u.map Place.enc)) (hl : t.length < 2^40) (hw : ∀ p ∈ t, p.ty.size < 2^40) (s : St) :
  cw (.f Q1f) [v, w] s = some (.ret (.val (.bool (eqTab t u))), s) := by
 rw [Q8p]
 by_cases he : t.length = u.length
 ·have e1 := Q3e t u (.val v) (.val w) hv hw' hl he hw s t u [] [] 0 rfl rfl rfl rfl
  rw [show ((0 : Nat) : Int) = 0 from rfl] at e1
  have he' : decide ((t.length : Int) = (u.length : Int)) = true := by simp only [decide_eq_true_eq]; omega
  simp only [go_sem, hv, hw', List.length_map, he', Bool.not_true, e1]
 ·have he' : decide ((t.length : Int) = (u.length : Int)) = false := by simp only [decide_eq_false_iff_not]; omega
  have : eqTab t u = false := by
   cases h : eqTab t u with
   | false => rfl
   | true => exact absurd (Q4J h) he
  simp only [go_sem, hv, hw', List.length_map, he', Bool.not_false, this]
section
variable (t : List Place) (v : AV) (s0 : St)
end
end Go.Proofs.Ytoahliipbclneaa
namespace Go.Proofs.Ytoahliipbclneaa
open Go Go.Am
set_option linter.unusedVariables false
def RN (l : List TNode) : Prop := ∀ n ∈ l, n.wrong.1 = 0
theorem RN.l {a b : List TNode} (h : RN (a ++ b)) : RN a := fun n hn => h n (List.mem_append_left _ hn)
theorem RN.r {a b : List TNode} (h : RN (a ++ b)) : RN b := fun n hn => h n (List.mem_append_right _ hn)
theorem RN.t {x : TNode} {a : List TNode} (h : RN (x :: a)) : RN a := fun n hn => h n (List.mem_cons_of_mem _ hn)
theorem RN.cases : ∀ {l : List Case}, RN (nodesCases l) → ∀ e ∈ l, RN (nodesCase e)
 | x :: l, h, e, he => by
   simp only [nodesCases] at h
   rcases List.mem_cons.1 he with rfl | he
   ·exact h.l
   ·exact h.r.cases e he
theorem RN.decs {i : Bool} : ∀ {l : List Dec}, RN (nodesDecs i l) → ∀ e ∈ l, RN (nodesDec i e)
 | x :: l, h, e, he => by
   simp only [nodesDecs] at h
   rcases List.mem_cons.1 he with rfl | he
   ·exact h.l
   ·exact h.r.decs e he
theorem RN.funs : ∀ {l : List Fun}, RN (nodesFuns l) → ∀ e ∈ l, RN (nodesCase e.case)
 | x :: l, h, e, he => by
   simp only [nodesFuns] at h
   rcases List.mem_cons.1 he with rfl | he
   ·cases e; simp only [nodesFun] at h; exact h.l.t
   ·exact h.r.funs e he
end Go.Proofs.Ytoahliipbclneaa
namespace Go.Am
open Go
mutual
def nmTy : Ty → Ty
 | .mk k n s l _ => .mk k n s (nmTys l) true
def nmTys : List Ty → List Ty
 | [] => []
 | t :: l => nmTy t :: nmTys l
end
def nmAt (w : Bool) (a : Int) : Int := bif w then a else 0
mutual
def nmPat (w : Bool) : Pat → Pat
 | .mk k a s n l _ => .mk k (nmAt w a) s n (nmPats w l) true
def nmPats (w : Bool) : List Pat → List Pat
 | [] => []
 | t :: l => nmPat w t :: nmPats w l
end
def nmCon (w : Bool) (c : Con) : Con := ⟨c.name, nmAt w c.at_, c.has, nmTy c.arg⟩
def nmCons (w : Bool) : List Con → List Con
 | [] => []
 | t :: l => nmCon w t :: nmCons w l
mutual
def nmExp (w : Bool) : Exp → Exp
 | .mk k a s n l _ c _ d _ => .mk k (nmAt w a) s n (nmExps w l) true (nmCases w c) true (nmDecs w d) true
def nmExps (w : Bool) : List Exp → List Exp
 | [] => []
 | t :: l => nmExp w t :: nmExps w l
def nmCase (w : Bool) : Case → Case
 | .mk p e => .mk (nmPat w p) (nmExp w e)
def nmCases (w : Bool) : List Case → List Case
 | [] => []
 | t :: l => nmCase w t :: nmCases w l
def nmDec (w : Bool) : Dec → Dec
 | .mk k a s p l _ c _ f _ => .mk k (nmAt w a) s p (nmCons w l) true (nmCases w c) true (nmFuns w f) true
def nmDecs (w : Bool) : List Dec → List Dec
 | [] => []
 | t :: l => nmDec w t :: nmDecs w l
def nmFun (w : Bool) : Fun → Fun
 | .mk s a c => .mk s (nmAt w a) (nmCase w c)
def nmFuns (w : Bool) : List Fun → List Fun
 | [] => []
 | t :: l => nmFun w t :: nmFuns w l
end
theorem Q3v (w : Bool) (a b : Int) : atB w a b = true ↔ nmAt w a = nmAt w b := by cases w <;> simp [atB, nmAt]
mutual
theorem Q8N : ∀ t u : Ty, eqTy t u = true ↔ nmTy t = nmTy u
 | .mk k n s l b, .mk k' n' s' l' b' => by simp only [eqTy, nmTy, Ty.mk.injEq, Bool.and_eq_true, decide_eq_true_eq, Q7P l l', and_true, and_assoc]
theorem Q7P : ∀ l m : List Ty, eqTys l m = true ↔ nmTys l = nmTys m
 | [], [] => by simp [eqTys, nmTys]
 | [], _ :: _ => by simp [eqTys, nmTys]
 | _ :: _, [] => by simp [eqTys, nmTys]
 | t :: l, u :: m => by simp only [eqTys, nmTys, List.cons.injEq, Bool.and_eq_true, Q8N t u, Q7P l m]
end
mutual
theorem Q7N (w : Bool) : ∀ t u : Pat, eqPat w t u = true ↔ nmPat w t = nmPat w u
 | .mk k a s n l b, .mk k' a' s' n' l' b' => by
   simp only [eqPat, nmPat, Pat.mk.injEq, Bool.and_eq_true, decide_eq_true_eq, Q6E w l l', Q3v, and_true]
   constructor <;> simp +contextual
theorem Q6E (w : Bool) : ∀ l m : List Pat, eqPats w l m = true ↔ nmPats w l = nmPats w m
 | [], [] => by simp [eqPats, nmPats]
 | [], _ :: _ => by simp [eqPats, nmPats]
 | _ :: _, [] => by simp [eqPats, nmPats]
 | t :: l, u :: m => by simp only [eqPats, nmPats, List.cons.injEq, Bool.and_eq_true, Q7N w t u, Q6E w l m]
end
theorem Qbf (w : Bool) (c d : Con) : eqCon w c d = true ↔ nmCon w c = nmCon w d := by
 simp only [eqCon, nmCon, Con.mk.injEq, Bool.and_eq_true, decide_eq_true_eq, Q8N, Q3v]
 constructor <;> simp +contextual
theorem Q6A (w : Bool) : ∀ l m : List Con, eqCons w l m = true ↔ nmCons w l = nmCons w m
 | [], [] => by simp [eqCons, nmCons]
 | [], _ :: _ => by simp [eqCons, nmCons]
 | _ :: _, [] => by simp [eqCons, nmCons]
 | t :: l, u :: m => by simp only [eqCons, nmCons, List.cons.injEq, Bool.and_eq_true, Qbf w t u, Q6A w l m]
mutual
theorem Q7M (w : Bool) : ∀ t u : Exp, eqExp w t u = true ↔ nmExp w t = nmExp w u
 | .mk k a s n l lb c cb d db, .mk k' a' s' n' l' lb' c' cb' d' db' => by
   simp only [eqExp, nmExp, Exp.mk.injEq, Bool.and_eq_true, decide_eq_true_eq, Q6C w l l', Q3m w c c', Q6B w d d', Q3v, and_true]
   constructor <;> simp +contextual
theorem Q6C (w : Bool) : ∀ l m : List Exp, eqExps w l m = true ↔ nmExps w l = nmExps w m
 | [], [] => by simp [eqExps, nmExps]
 | [], _ :: _ => by simp [eqExps, nmExps]
 | _ :: _, [] => by simp [eqExps, nmExps]
 | t :: l, u :: m => by simp only [eqExps, nmExps, List.cons.injEq, Bool.and_eq_true, Q7M w t u, Q6C w l m]
theorem Q6z (w : Bool) : ∀ t u : Case, eqCase w t u = true ↔ nmCase w t = nmCase w u
 | .mk p e, .mk p' e' => by simp only [eqCase, nmCase, Case.mk.injEq, Bool.and_eq_true, Q7N w p p', Q7M w e e']
theorem Q3m (w : Bool) : ∀ l m : List Case, eqCases w l m = true ↔ nmCases w l = nmCases w m
 | [], [] => by simp [eqCases, nmCases]
 | [], _ :: _ => by simp [eqCases, nmCases]
 | _ :: _, [] => by simp [eqCases, nmCases]
 | t :: l, u :: m => by simp only [eqCases, nmCases, List.cons.injEq, Bool.and_eq_true, Q6z w t u, Q3m w l m]
theorem Qbg (w : Bool) : ∀ t u : Dec, eqDec w t u = true ↔ nmDec w t = nmDec w u
 | .mk k a s p l lb c cb f fb, .mk k' a' s' p' l' lb' c' cb' f' fb' => by
   simp only [eqDec, nmDec, Dec.mk.injEq, Bool.and_eq_true, decide_eq_true_eq, Q6A w l l', Q3m w c c', Q6D w f f', Q3v, and_true]
   constructor <;> simp +contextual
theorem Q6B (w : Bool) : ∀ l m : List Dec, eqDecs w l m = true ↔ nmDecs w l = nmDecs w m
 | [], [] => by simp [eqDecs, nmDecs]
 | [], _ :: _ => by simp [eqDecs, nmDecs]
 | _ :: _, [] => by simp [eqDecs, nmDecs]
 | t :: l, u :: m => by simp only [eqDecs, nmDecs, List.cons.injEq, Bool.and_eq_true, Qbg w t u, Q6B w l m]
theorem Qbh (w : Bool) : ∀ t u : Fun, eqFun w t u = true ↔ nmFun w t = nmFun w u
 | .mk s a c, .mk s' a' c' => by
   simp only [eqFun, nmFun, Fun.mk.injEq, Bool.and_eq_true, decide_eq_true_eq, Q6z w c c', Q3v]
   constructor <;> simp +contextual
theorem Q6D (w : Bool) : ∀ l m : List Fun, eqFuns w l m = true ↔ nmFuns w l = nmFuns w m
 | [], [] => by simp [eqFuns, nmFuns]
 | [], _ :: _ => by simp [eqFuns, nmFuns]
 | _ :: _, [] => by simp [eqFuns, nmFuns]
 | t :: l, u :: m => by simp only [eqFuns, nmFuns, List.cons.injEq, Bool.and_eq_true, Qbh w t u, Q6D w l m]
end
end Go.Am
namespace Go.Proofs.Ytoahliipbclneaa
open Go Go.Am
set_option linter.unusedVariables false
mutual
theorem Qf6 : ∀ t : Ty, ownTy t = nmTy t
 | .mk k n s l b => by simp only [ownTy, nmTy, Qal l]
theorem Qal : ∀ l : List Ty, ownTys l = nmTys l
 | [] => rfl
 | t :: l => by simp only [ownTys, nmTys, Qf6 t, Qal l]
end
end Go.Proofs.Ytoahliipbclneaa
namespace Go.Proofs.Ytoahliipbclneaa
open Go Go.Am
set_option linter.unusedVariables false
set_option maxRecDepth 4000
def kD11 : Dec := .mk 3 0 [111, 112, 116] 1 [⟨[78, 111, 110, 101], 0, false, .zero⟩, ⟨[83, 111, 109, 101], 0, true, .mk 1 0 [] [] true⟩] false [] true [] true
def kT11 : List Place := (addD startD kD11).1
def placeB (p : Place) : Bool := decide (p.name.length < 2^40) && (decide (p.data.length < 2^40) && (preTy p.ty).all fun u => decide (u.name.length < 2^40))
theorem QbB {p : Place} (h : placeB p = true) : PlaceOK p := by
 simp only [placeB, Bool.and_eq_true, decide_eq_true_eq, List.all_eq_true] at h
 refine ⟨h.1, h.2.1, ?_⟩
 intro n hn
 rw [Q1V] at hn
 obtain ⟨u, hu, rfl⟩ := List.mem_map.1 hn
 exact h.2.2 u hu
theorem Q6R {t : List Place} (h : t.all placeB = true) : ∀ p ∈ t, PlaceOK p := fun p hp => QbB (List.all_eq_true.1 h p hp)
theorem kstart_ok : TabOK startD := ⟨by decide +kernel, Q6R (by decide +kernel)⟩
theorem kT11_ok : TabOK kT11 := ⟨by decide +kernel, Q6R (by decide +kernel)⟩
theorem Qds : (addD startD kD11).2 = .zero := by decide +kernel
theorem Qac : kT11.length = 8 := by decide +kernel
theorem Qbq : rightTD kT11 = true := by decide +kernel
def k11B (o : Option Place) : Bool := match o with
 | some p => decide (p.tag = 1) && decide (p.of_ = 2) && decide (p.vars = 1) && decide (p.ty.name = [45, 62])
 | none => false
theorem Qci : k11B (findD [83, 111, 109, 101] kT11) = true := by decide +kernel
theorem Q62 (s : St) : Ret (cw (.f Q28) [] s) s (.bool true) := by
 obtain ⟨s1, e1, g1⟩ := Q0w s
 have hst : (startD.map Place.enc) ≠ [] := by simp [startD]
 obtain ⟨s2, w, e2, hw, g2⟩ := Q4a startD kD11 (by decide) kstart_ok.wide (by decide) (by decide) (fun c hc => by
  simp only [kD11, Dec.cons, List.mem_cons, List.not_mem_nil, or_false] at hc
  rcases hc with rfl | rfl
  ·exact Q2y (by simp) (by simp)
  ·exact Q2y (by simp) (by simp)) (.sl (startD.map Place.enc)) rfl s1
 obtain ⟨s3, e3, g3⟩ := Q3C [83, 111, 109, 101] kT11 (by rw [Qac]; decide) kT11_ok.wide w hw s2
 obtain ⟨s4, e4, g4⟩ := Q34 kT11 kT11_ok w hw s3
 have hf := Qci
 cases hfd : findD [83, 111, 109, 101] kT11 with
 | none => rw [hfd] at hf; cases hf
 | some p =>
   rw [hfd] at hf e3
   simp only [k11B, Bool.and_eq_true, decide_eq_true_eq] at hf
   obtain ⟨⟨⟨h1, h2⟩, h3⟩, h4⟩ := hf
   rw [Qds] at e2
   rw [Qbq] at e4
   have hlen : ((kT11.length : Nat) : Int) = 8 := by rw [Qac]; rfl
   have hw' : (Slot.val w).list? = some (kT11.map Place.enc) := hw
   refine ⟨s4, ?_, ((g1.trans g2).trans g3).trans g4⟩
   simp only [foundD, Place.enc, Place.cells_eq, h1, h2, h3, h4] at e3
   simp only [kD11, Dec.enc, Dec.cells_mk, List.map_cons, List.map_nil, Q2o, Q18, Con.enc, Con.cells, Ty.zero, Ty.cells_mk, TBad.enc, TBad.cells, TBad.zero] at e2
   rw [Q7v]
   simp only [go_sem, Nat.reduceAdd, Nat.reduceLeDiff, e1, e2, e3, e4, hw', List.length_map, hlen, Q9D, decide_true]
end Go.Proofs.Ytoahliipbclneaa
namespace Go.Proofs.Ytoahliipbclneaa
open Go Go.Am
set_option linter.unusedVariables false
set_option maxRecDepth 4000
theorem Q9L : eqTab startD startD = true := by decide +kernel
theorem Q92 : rightTD startD = true := by decide +kernel
theorem Qbr : ∀ k, k < 6 → ∃ p, startD[k]? = some p ∧ findD p.name startD = some p ∧ eqPl p p = true ∧ p ∈ startD
 | 0, _ => ⟨_, rfl, rfl, by decide +kernel, by simp [startD]⟩
 | 1, _ => ⟨_, rfl, rfl, by decide +kernel, by simp [startD]⟩
 | 2, _ => ⟨_, rfl, rfl, by decide +kernel, by simp [startD]⟩
 | 3, _ => ⟨_, rfl, rfl, by decide +kernel, by simp [startD]⟩
 | 4, _ => ⟨_, rfl, rfl, by decide +kernel, by simp [startD]⟩
 | 5, _ => ⟨_, rfl, rfl, by decide +kernel, by simp [startD]⟩
 | n + 6, h => by omega
theorem Qc9 (n : Int) : convS (C.ti Q1) (C.ti ZK) (.val (.int .i64 n)) = some (.val (.int .u64 (IntKind.u64.wrap n))) := by
 simp only [convS, Q9Z, Q6g]
theorem Qc6 (n : Int) : convS (C.ti ZK) (C.ti Q1) (.val (.int .u64 n)) = some (.val (.int .i64 (IntKind.i64.wrap n))) := by
 simp only [convS, Q9Z, Q6g]
theorem QdC (x : Int) : ∃ k : Nat, k < 6 ∧ IntKind.i64.wrap ((IntKind.u64.wrap x).tmod 6) = (k : Int) := by
 have h0 : 0 ≤ IntKind.u64.wrap x := by
  unfold IntKind.wrap
  simp only [IntKind.signed, IntKind.bits]
  exact Int.emod_nonneg _ (by decide)
 have h1 := Int.tmod_nonneg 6 h0
 have h2 := Int.tmod_lt_of_pos (IntKind.u64.wrap x) (show (0 : Int) < 6 by decide)
 refine ⟨((IntKind.u64.wrap x).tmod 6).toNat, by omega, ?_⟩
 rw [wrap64 (by omega) (by omega)]; omega
theorem Q3V (x : Int) (s : St) : Ret (cw (.f Q0O) [.int .i64 x] s) s (.bool true) := by
 obtain ⟨s1, e1, g1⟩ := Q0w s
 obtain ⟨y, s2, e2, a2⟩ := Q66 s1
 obtain ⟨nl, hav⟩ := a2.av
 have hsm : ∀ p ∈ startD, p.ty.size < 2^40 := fun p hp => Nat.lt_trans (QaM p hp) (by decide)
 have e3 := Q6X startD startD (.sl (startD.map Place.enc)) (encS nl (startD.map Place.enc)) rfl (Qk _ _) (by decide) hsm s2
 rw [Q9L] at e3
 obtain ⟨k, hk, hw⟩ := QdC x
 obtain ⟨p, h1, h2, h3, h4⟩ := Qbr k hk
 have f1 : ixS 10 (.full (startD.map Place.enc)) (.val (.int .i64 (k : Int))) = some (.val (.cp p.cells)) := Q5i (n := k) (v := p.enc) rfl (by rw [List.getElem?_map, h1]; rfl) (Place.cells_len p) (by decide)
 obtain ⟨s4, e4, g4⟩ := Q3C p.name startD (by decide) Q5H (.sl (startD.map Place.enc)) rfl s2
 rw [h2] at e4
 have e5 := Q1y p p (hsm p h4) s4
 rw [h3] at e5
 obtain ⟨s6, e6, g6⟩ := Q34 startD kstart_ok (.sl (startD.map Place.enc)) rfl s4
 rw [Q92] at e6
 obtain ⟨s7, e7, g7⟩ := Q62 s6
 refine ⟨s7, ?_, (((g1.trans a2.grew).trans g4).trans g6).trans g7⟩
 simp only [foundD, Place.enc, Place.cells_eq] at e4 e5 f1
 rw [Q4R]
 simp only [go_sem, Int.reduceEq, Nat.reduceAdd, Nat.reduceLeDiff, ne_eq, not_false_eq_true, e1, e2, Zt hav, e3, Qc9, Qc6, hw, f1, e4, e5, e6, e7, Bool.not_true, Int.reduceEq]
theorem Q4o (x : Int) (g : (Lit.int .i64 x).wf = true) (hb : (0 : Nat) ≤ 1) : Ret (cw (.f Q0O) [.int .i64 x] st0) st0 (.bool true) :=
 Q3V x st0
end Go.Proofs.Ytoahliipbclneaa