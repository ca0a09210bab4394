/- A part of the proof: SDecl7, PTree2, SRef2, SRef5, SRef8, SRef11, SRef11b, SRef3. -/
import Derived.Test.YtoahliipbclneaaGreatM6
import Derived.Test.YtoahliipbclneaaGreatM7
import Derived.Test.YtoahliipbclneaaGreatM8
import Derived.Test.YtoahliipbclneaaGreatM9
import Derived.Test.YtoahliipbclneaaGreatM10
import Derived.Test.YtoahliipbclneaaGreatM11
import Derived.Test.YtoahliipbclneaaGreatM12
import Derived.Lib.IndexMore
set_option linter.unusedVariables false
set_option linter.unusedSimpArgs false
namespace Go.Proofs.YtoahliipbclneaaGreat
open Go Go.Am
set_option linter.unusedVariables false
set_option maxRecDepth 4000
theorem Q7f (v : Slot) {s0 s : St} {x : Slot} {ps : List (Dec × Nat)} (h : DA s0 s x ps) (p : Place) (l : Nat) (hd : Holds s l ((mkD p).cons.map Con.enc)) (hl : s0.locs.length ≤ l) (hn : ∀ q ∈ ps, q.2 ≠ l) (hx : ∀ loc, x = .val (.vs loc Qc 7 0 ps.length) → loc ≠ l)
  (N : Nat) (hN : N < 2^27) (hb : ps.length ≤ N ∧ ∀ q ∈ ps, q.1.cons.length ≤ N) (y z : Slot) (i : Nat) (hi : i < 2^40) :
  ∃ x' s' ps', Q18 v x (p.cells.map .val) ((dcell (mkD p, l)).cells.map .val) y z (.val (.int .i64 i)) s = Zz v x' y z (.val (.int .i64 ((i + 1 : Nat) : Int))) s' ∧ DA s0 s' x' ps' ∧ ps'.map Prod.fst = stepD (ps.map Prod.fst) p ∧ (ps'.length ≤ N + 1 ∧ ∀ q ∈ ps', q.1.cons.length ≤ N + 1) := by
 have w1 : IntKind.i64.wrap ((i : Int) + 1) = ((i + 1 : Nat) : Int) := Q54 (by omega)
 have hone : (mkD p).cons.length = 1 := by unfold mkD; cases decide (p.data = sExn) <;> rfl
 obtain ⟨x', s', e1, a1⟩ := h.push (mkD p) l hd hl hn hx (Qfl p) (by omega)
 have hb' : (ps ++ [(mkD p, l)]).length ≤ N + 1 ∧ ∀ q ∈ ps ++ [(mkD p, l)], q.1.cons.length ≤ N + 1 := by
  refine ⟨by rw [List.length_append, List.length_singleton]; omega, fun q hq => ?_⟩
  rcases List.mem_append.1 hq with hq | hq
  ·have := hb.2 q hq; omega
  ·simp only [List.mem_singleton] at hq; subst hq; simp only [hone]; omega
 rcases List.eq_nil_or_concat ps with rfl | ⟨qs, ⟨d, l'⟩, rfl⟩
 ·obtain ⟨-, rfl⟩ : ([] : List (Dec × Nat)) = [] ∧ x = .val .nils := by
   rcases h.at_ with h | ⟨h, -⟩
   ·exact h
   ·exact absurd rfl h
  refine ⟨x', s', _, ?_, a1, by simp [Q5o], hb'⟩
  rw [Q2g]
  have hE := hone
  cases hc : decide (p.data = sExn) with
  | true =>
    have hm : mkD p = exnDec (conD p) := by simp only [mkD, hc, cond_true]
    simp only [hm, dcell, exnDec, Dec.kind, Dec.at_, Dec.name, Dec.params, Dec.cons, List.length_singleton] at e1 ⊢
    simp only [go_sem, Int.reduceEq, Int.reduceGT, Int.reduceNeg, Int.reduceSub, Nat.reduceAdd, Nat.reduceLeDiff, Q0c, Place.cells_eq, List.map_cons, List.map_nil, e1, w1, Int.natCast_zero]
  | false =>
    have hm : mkD p = dataDec p.data p.vars [conD p] := by simp only [mkD, hc, cond_false]
    simp only [hm, dcell, dataDec, Dec.kind, Dec.at_, Dec.name, Dec.params, Dec.cons, List.length_singleton] at e1 ⊢
    simp only [go_sem, Int.reduceEq, Int.reduceGT, Int.reduceNeg, Int.reduceSub, Nat.reduceAdd, Nat.reduceLeDiff, Q0c, Place.cells_eq, List.map_cons, List.map_nil, e1, w1, Int.natCast_zero]
 ·rw [List.concat_eq_append] at *
  obtain ⟨loc, rfl, h1, h2, h3⟩ : ∃ loc, x = .val (.vs loc Qc 7 0 (qs ++ [(d, l')]).length) ∧ s0.locs.length ≤ loc ∧ (∀ q ∈ qs ++ [(d, l')], q.2 ≠ loc) ∧ Holds s loc ((qs ++ [(d, l')]).map dcell) := by
   rcases h.at_ with ⟨h, -⟩ | h
   ·simp at h
   ·exact h.2
  have hlen : (qs ++ [(d, l')]).length = qs.length + 1 := by simp
  have hmem : (d, l') ∈ qs ++ [(d, l')] := by simp
  have hcl : d.cons.length ≤ N := hb.2 _ hmem
  have hql : qs.length < 2^27 := by have := hb.1; omega
  have f0 : IntKind.i64.wrap (((qs.length + 1 : Nat) : Int) - 1) = (qs.length : Int) := QiR (by omega)
  have f1 : ixS 7 (.val (.vs loc Qc 7 0 (qs.length + 1))) (.val (.int .i64 qs.length)) = some (.val (.vp loc (qs.length * 7))) := by
   rw [Qhb (by omega) (by decide), Nat.zero_add]
  have hcells : s.locs[loc]? = some (.var ((flatL (qs.map dcell)).map .val ++ [.val (.int .i64 d.kind), .val (.int .i64 d.at_), .val (.str d.name), .val (.int .i64 d.params), .val (.vs l' Qi 7 0 d.cons.length), .val .nils, .val .nils])) := by
   unfold Holds at h3
   rw [h3, List.map_append, Q5h, List.map_append]; rfl
  have hpl : ((flatL (qs.map dcell)).map Slot.val).length = qs.length * 7 := by rw [List.length_map, Q1y (Q1I qs), List.length_map]
  have f2 : ldV (C.ti Qe) false s (.val (.vp loc (qs.length * 7 + 0))) = some (.val (.int .i64 d.kind)) := by
   rw [Q7v hcells, Nat.add_zero, List.drop_left' hpl]; rfl
  have f3 : ldV (C.ti Q2) false s (.val (.vp loc (qs.length * 7 + 2))) = some (.val (.str d.name)) := by
   rw [Q7v hcells, ← hpl, List.drop_append, List.drop_of_length_le (by omega)]
   rw [show ((flatL (qs.map dcell)).map Slot.val).length + 2 - ((flatL (qs.map dcell)).map Slot.val).length = 2 by omega]; rfl
  have f4 : ldV (C.ti Qj) false s (.val (.vp loc (qs.length * 7 + 4))) = some (.val (.vs l' Qi 7 0 d.cons.length)) := by
   rw [Q7v hcells, ← hpl, List.drop_append, List.drop_of_length_le (by omega)]
   rw [show ((flatL (qs.map dcell)).map Slot.val).length + 4 - ((flatL (qs.map dcell)).map Slot.val).length = 4 by omega]; rfl
  have f5 : decide (((qs.length + 1 : Nat) : Int) > 0) = true := decide_eq_true (by omega)
  have hmap : (qs ++ [(d, l')]).map Prod.fst = qs.map Prod.fst ++ [d] := by simp
  rw [hlen] at e1
  cases hj : joins p d with
  | false =>
    refine ⟨x', s', _, ?_, a1, by rw [hmap, Q1C, hj, cond_false, List.map_append, hmap]; rfl, hb'⟩
    rw [hlen, Q2g]
    cases hc : decide (p.data = sExn) with
    | true =>
      have hm : mkD p = exnDec (conD p) := by simp only [mkD, hc, cond_true]
      simp only [hm, dcell, exnDec, Dec.kind, Dec.at_, Dec.name, Dec.params, Dec.cons, List.length_singleton] at e1 ⊢
      simp only [go_sem, Int.reduceEq, Nat.reduceAdd, Nat.reduceLeDiff, Q0c, Place.cells_eq, List.map_cons, List.map_nil, e1, w1]
    | false =>
      have hm : mkD p = dataDec p.data p.vars [conD p] := by simp only [mkD, hc, cond_false]
      simp only [hm, dcell, dataDec, Dec.kind, Dec.at_, Dec.name, Dec.params, Dec.cons, List.length_singleton] at e1
      simp only [joins, hc, Bool.not_false, Bool.true_and] at hj
      have hdc : (dcell (mkD p, l)).cells = [.int .i64 3, .int .i64 0, .str p.data, .int .i64 p.vars, .vs l Qi 7 0 1, .nils, .nils] := by rw [hm]; rfl
      rw [hdc]
      by_cases hk : d.kind = 3
      ·have hnm : decide (d.name = p.data) = false := by simpa [hk] using hj
       simp only [go_sem, Nat.reduceAdd, Nat.reduceLeDiff, Q0c, Place.cells_eq, List.map_cons, List.map_nil, e1, w1, f0, f1, f2, f3, f5, hk, hnm]
      ·simp only [go_sem, Nat.reduceAdd, Nat.reduceLeDiff, Q0c, Place.cells_eq, List.map_cons, List.map_nil, e1, w1, f0, f1, f2, f3, f5, decide_eq_false hk]
  | true =>
    obtain ⟨s1, s2, e2, e3, a2⟩ := h.join (conD p) (by omega)
    refine ⟨_, s2, _, ?_, a2, by rw [hmap, Q1C, hj, cond_true, List.map_append]; rfl, ?_⟩
    ·simp only [joins, Bool.and_eq_true, Bool.not_eq_true', decide_eq_false_iff_not, decide_eq_true_eq] at hj
     obtain ⟨⟨hc, hk⟩, hnm⟩ := hj
     have hm : mkD p = dataDec p.data p.vars [conD p] := by simp only [mkD, decide_eq_false hc, cond_false]
     have hdc : (dcell (mkD p, l)).cells = [.int .i64 3, .int .i64 0, .str p.data, .int .i64 p.vars, .vs l Qi 7 0 1, .nils, .nils] := by rw [hm]; rfl
     have ec := Q6G p s
     simp only [Place.enc, Place.cells_eq] at ec
     have hcn : (conD p).cells.length = 7 := Con.cells_len _
     rw [hdc, hlen, Q2g]
     simp only [Con.enc] at e2 ec
     simp only [go_sem, Nat.reduceAdd, Nat.reduceLeDiff, Q0c, Place.cells_eq, List.map_cons, List.map_nil, w1, f0, f1, f2, f3, f4, f5, hk, hnm, decide_true, ec, hcn, e2, e3, List.length_append, List.length_singleton]
    ·refine ⟨by rw [List.length_append, List.length_singleton]; have := hb.1; rw [hlen] at this; omega, fun q hq => ?_⟩
     rcases List.mem_append.1 hq with hq | hq
     ·have := hb.2 q (List.mem_append_left _ hq); omega
     ·simp only [List.mem_singleton] at hq; subst hq
      simp only [addCon, Dec.cons, List.length_append, List.length_singleton]
      have hcl : d.cons.length ≤ N := hcl
      simp only [Dec.cons] at hcl
      omega
theorem QhU {e : TypeId} {t : TI} {v : AV} (s : St) (h : v.cells.length = t.size) (ht : v.isTup = false) (hb : t.bytes ≤ 2^16) : bslV e t s [.val v] = some (.val (.vs s.locs.length e t.size 0 1), s.addLoc (.var ((flatL [v]).map .val))) := by
 unfold bslV
 simp only [QhT h ht, QhS, Option.map_some, newV]
 rw [if_pos ⟨by simp only [List.length_singleton]; omega, by simp⟩]; rfl
theorem Q3r (v : Slot) (T : List Place) (y : Slot) (hy : y.list? = some (T.map Place.enc)) (hT : T.length < 2^26) (s0 : St) : ∀ (suf pre : List Place) (x : Slot) (s : St) (ps : List (Dec × Nat)) (i : Nat), pre ++ suf = T → i = pre.length → DA s0 s x ps → (ps.length ≤ i ∧ ∀ q ∈ ps, q.1.cons.length ≤ i) →
  ∃ s', Zz v x y (.val (.int .i64 T.length)) (.val (.int .i64 i)) s = Q03 v (.val (encS true ((suf.foldl stepD (ps.map Prod.fst)).map Dec.enc))) (.val (encS true ((suf.foldl stepD (ps.map Prod.fst)).map Dec.enc))) (.val (.int .i64 ((suf.foldl stepD (ps.map Prod.fst)).length : Nat))) (.val (.int .i64 0)) s' ∧ Grew s0 s'
 | [], pre, x, s, ps, i, hp, hi, h, hb => by
   subst hi
   obtain ⟨s', e1, g1⟩ := h.frz
   refine ⟨s', ?_, g1⟩
   rw [Q4y]
   simp only [go_sem, Nat.reduceAdd, Nat.reduceLeDiff, Q9 (show pre = T by simpa using hp), e1, List.foldl_nil, List.length_map]
 | p :: suf, pre, x, s, ps, i, hp, hi, h, hb => by
   subst hi
   have hlt : pre.length < T.length := by rw [← hp]; simp
   obtain ⟨f1, f2, f3⟩ := Q8 hy hp (by omega) (Place.cells_len p) (by decide)
   have e1 := QhU (e := Qi) (t := C.ti Qi) (v := (conD p).enc) s (by rw [Zl]; exact Con.cells_len _) rfl (by rw [Q8c]; decide)
   rw [Zl] at e1
   have ec := Q6G p s
   have g1 : Grew s (s.addLoc (.var ((flatL [(conD p).enc]).map .val))) := (Grew.refl s).addLoc _
   have hnew := Qca s [(conD p).enc]
   have hone : (mkD p).cons = [conD p] := by unfold mkD; cases decide (p.data = sExn) <;> rfl
   have h' : DA s0 (s.addLoc (.var ((flatL [(conD p).enc]).map .val))) x ps := ⟨h.grew.trans g1, by
    rcases h.at_ with h | ⟨h0, loc, h1, h2, h3, h4⟩
    ·exact .inl h
    ·exact .inr ⟨h0, loc, h1, h2, h3, h4.move g1⟩, h.ge, h.nd, fun q hq => (h.hold q hq).move g1, h.form⟩
   obtain ⟨x', s', ps', e2, a2, hm, hb2⟩ := Q7f v h' p s.locs.length (by rw [hone]; exact hnew) h.grew.locsLe (fun q hq => Nat.ne_of_lt (h.hold q hq).lt) (fun loc hl => by
    rcases h.at_ with ⟨-, h⟩ | ⟨h0, loc', h1, h2, h3, h4⟩
    ·rw [h] at hl; simp at hl
    ·rw [h1] at hl
     obtain rfl : loc' = loc := by injection hl with hl; injection hl
     exact Nat.ne_of_lt h4.lt) pre.length (by omega) hb y (.val (.int .i64 T.length)) pre.length (by omega)
   obtain ⟨s3, e3, g3⟩ := Q3r v T y hy hT s0 suf (pre ++ [p]) x' s' ps' (pre.length + 1) (by simpa using hp) (by simp) a2 hb2
   refine ⟨s3, ?_, g3⟩
   rw [List.foldl_cons, ← hm, ← e3, ← e2]
   rw [Q4y]
   simp only [Place.enc, Place.cells_eq, Con.enc] at ec e1
   cases hc : decide (p.data = sExn) with
   | true =>
     have hdc : (dcell (mkD p, s.locs.length)).cells = [.int .i64 4, .int .i64 0, .str [], .int .i64 0, .vs s.locs.length Qi 7 0 1, .nils, .nils] := by simp only [mkD, hc, cond_true]; rfl
     have hc' : decide (p.data = [101, 120, 110]) = true := hc
     rw [hdc]
     simp only [go_sem, Nat.reduceAdd, Nat.reduceLeDiff, f1, f2, Place.cells_eq, List.map_cons, List.map_nil, ec, e1, hc']
   | false =>
     have hdc : (dcell (mkD p, s.locs.length)).cells = [.int .i64 3, .int .i64 0, .str p.data, .int .i64 p.vars, .vs s.locs.length Qi 7 0 1, .nils, .nils] := by simp only [mkD, hc, cond_false]; rfl
     have hc' : decide (p.data = [101, 120, 110]) = false := hc
     rw [hdc]
     simp only [go_sem, Nat.reduceAdd, Nat.reduceLeDiff, f1, f2, Place.cells_eq, List.map_cons, List.map_nil, ec, e1, hc']
theorem Qbb (p q : Place) (h : WideTy p.ty) (s : St) : cw (.f Q1U) [p.enc, q.enc] s = some (.ret (.val (.bool (eqPl p q))), s) := by
 have e1 := fun s => Qej p.ty h q.ty s
 simp only [Ty.enc, Ty.cells_eq] at e1
 rw [Qds]
 simp only [go_sem, Nat.reduceAdd, Nat.reduceLeDiff, Place.enc, Place.cells_eq, List.map_cons, List.map_nil, e1]
 rfl
theorem Q0X (t u : List Place) (x y : Slot) (hx : x.list? = some (t.map Place.enc)) (hy : y.list? = some (u.map Place.enc)) (hl : t.length < 2^40) (he : t.length = u.length) (hw : ∀ p ∈ t, WideTy p.ty) (s : St) : ∀ (suf suf' pre pre' : List Place) (i : Nat), pre ++ suf = t → pre' ++ suf' = u → i = pre.length → pre'.length = pre.length →
  Qp y (.val (.fn Q1U [])) x (.val (.int .i64 t.length)) (.val (.int .i64 i)) s = some (.ret (.val (.bool (eqTab suf suf'))), s)
 | [], suf', pre, pre', i, hp, hp', hi, hi' => by
   subst hi
   have : suf' = [] := by
    have h1 : t.length = pre.length := by rw [← hp]; simp
    have h2 : u.length = pre'.length + suf'.length := by rw [← hp']; simp
    exact List.eq_nil_of_length_eq_zero (by omega)
   subst this
   rw [QS]; simp only [go_sem, Q9 (show pre = t by simpa using hp), eqTab]
 | p :: suf, [], pre, pre', i, hp, hp', hi, hi' => by
   have h1 : t.length = pre.length + (suf.length + 1) := by rw [← hp]; simp
   have h2 : u.length = pre'.length := by rw [← hp']; simp
   omega
 | p :: suf, q :: suf', pre, pre', i, hp, hp', hi, hi' => by
   subst hi
   obtain ⟨f1, f2, f3⟩ := Q8 hx hp (by omega) (Place.cells_len p) (by decide)
   obtain ⟨f4, f5, f6⟩ := Q8 hy hp' (by omega) (Place.cells_len q) (by decide)
   rw [hi'] at f5
   have ih := Q0X t u x y hx hy hl he hw s suf suf' (pre ++ [p]) (pre' ++ [q]) (pre.length + 1) (by simpa using hp) (by simpa using hp') (by simp) (by simp [hi'])
   have e1 := Qbb p q (hw p (by rw [← hp]; simp)) s
   simp only [Place.enc, Place.cells_eq] at e1
   rw [QS]
   cases e : eqPl p q with
   | true =>
     rw [e] at e1
     simp only [go_sem, Nat.reduceAdd, Nat.reduceLeDiff, f1, f2, f3, f5, Place.cells_eq, List.map_cons, List.map_nil, e1, Bool.not_true, ih, eqTab, e, Bool.true_and]
   | false =>
     rw [e] at e1
     simp only [go_sem, Nat.reduceAdd, Nat.reduceLeDiff, f1, f2, f3, f5, Place.cells_eq, List.map_cons, List.map_nil, e1, Bool.not_false, eqTab, e, Bool.false_and]
theorem Q3D (t u : List Place) (v w : AV) (hv : (Slot.val v).list? = some (t.map Place.enc)) (hw' : (Slot.val w).list? = some (u.map Place.enc)) (hl : t.length < 2^40) (hw : ∀ p ∈ t, WideTy p.ty) (s : St) :
  cw (.f Qv) [v, w, .fn Q1U []] s = some (.ret (.val (.bool (eqTab t u))), s) := by
 rw [Q0q]
 by_cases he : t.length = u.length
 ·have e1 := Q0X t u (.val v) (.val w) hv hw' hl he hw s t u [] [] 0 rfl rfl rfl rfl
  rw [show ((0 : Nat) : Int) = 0 from rfl] at e1
  have he' : decide ((t.length : Int) = (u.length : Int)) = true := by simp only [decide_eq_true_eq]; omega
  simp only [go_sem, hv, hw', List.length_map, he', Bool.not_true, e1]
 ·have he' : decide ((t.length : Int) = (u.length : Int)) = false := by simp only [decide_eq_false_iff_not]; omega
  have : eqTab t u = false := by
   cases h : eqTab t u with
   | false => rfl
   | true => exact absurd (Q7k h) he
  simp only [go_sem, hv, hw', List.length_map, he', Bool.not_false, this]
structure TabOK (t : List Place) : Prop where
 size : Place.sizes t < 2^22
 ok : ∀ p ∈ t, PlaceOK p
theorem TabOK.wide {t : List Place} (h : TabOK t) : ∀ p ∈ t, WideTy p.ty := fun p hp => Q2U _ (by have := Place.mem_sizes hp; have := h.size; omega)
theorem TabOK.len {t : List Place} (h : TabOK t) : t.length < 2^22 := Nat.lt_of_le_of_lt (Place.len_sizes t) h.size
theorem QfB {d : Dec} (hs : d.size < 2^24) (h : okD d = true) : DecFit d := by
 simp only [okD, decide_eq_true_eq] at h
 exact QgS (P := [d]) (by simp only [Dec.sizes]; omega) (Q6v.1 h) d (by simp)
theorem Q3s (t : List Place) (ht : TabOK t) (v : AV) (hv : (Slot.val v).list? = some (t.map Place.enc)) (P : List Dec) (hs : Dec.sizes P < 2^24) (hg : ∀ d ∈ P, DGood d) : ∀ (suf pre : List Dec) (s : St) (i : Nat), pre ++ suf = P → i = pre.length → (∀ d ∈ pre, okD d = true) →
  Ret (Q03 (.val v) (.val (encS true (P.map Dec.enc))) (.val (encS true (P.map Dec.enc))) (.val (.int .i64 P.length)) (.val (.int .i64 i)) s) s (.bool (suf.all okD && (decide ((ofD P startD).2.kind = 0) && eqTab t (ofD P startD).1)))
 | [], pre, s, i, hp, hi, hk => by
   subst hi
   have hpP : pre = P := by simpa using hp
   subst hpP
   obtain ⟨s1, w, e1, hw, g1⟩ := Qdr pre true (fun d hd => QfB (by have := Dec.mem_sizes hd; omega) (hk d hd)) (by omega) s
   have e2 := Q3D t (ofD pre startD).1 v w hv hw (by have := ht.len; omega) ht.wide s1
   refine ⟨s1, ?_, g1⟩
   rw [Q4z]
   simp only [TBad.enc, TBad.cells] at e1
   simp only [go_sem, Nat.reduceAdd, Nat.reduceLeDiff, Q9 rfl, e1, TBad.cells, List.map_cons, List.map_nil, e2, List.all_nil, Bool.true_and]
 | d :: suf, pre, s, i, hp, hi, hk => by
   subst hi
   obtain ⟨f1, f2, f3⟩ := Q8 (x := .val (encS true (P.map Dec.enc))) (Qf _ _) hp (by have := Dec.len_sizes P; omega) (Dec.cells_len d) (by decide)
   have hd : d ∈ P := by rw [← hp]; simp
   obtain ⟨s1, e1, g1⟩ := QaH [d] false s (by have := Dec.mem_sizes hd; simp only [Dec.sizes]; omega) (Qjy (hg d hd))
   rw [Q4z]
   simp only [TBad.enc, TBad.cells, List.map_cons, List.map_nil, Q1K, Dec.enc, Dec.cells_eq] at e1
   cases h : okD d with
   | true =>
     obtain ⟨s2, e2, g2⟩ := Q3s t ht v hv P hs hg suf (pre ++ [d]) s1 (pre.length + 1) (by simpa using hp) (by simp) (fun q hq => by
      rcases List.mem_append.1 hq with hq | hq
      ·exact hk q hq
      ·simp only [List.mem_singleton] at hq; subst hq; exact h)
     have h' : decide ((rightN (nodesDecs false [d]) (deepDecs [d] 0)).kind = 0) = true := h
     refine ⟨s2, ?_, g1.trans g2⟩
     simp only [go_sem, Nat.reduceAdd, Nat.reduceLeDiff, f1, f2, f3, Dec.cells_eq, List.map_cons, List.map_nil, e1, h', Bool.not_true, List.all_cons, h, Bool.true_and]
     exact e2
   | false =>
     have h' : decide ((rightN (nodesDecs false [d]) (deepDecs [d] 0)).kind = 0) = false := h
     refine ⟨s1, ?_, g1⟩
     simp only [go_sem, Nat.reduceAdd, Nat.reduceLeDiff, f1, f2, f3, Dec.cells_eq, List.map_cons, List.map_nil, e1, h', Bool.not_false, List.all_cons, h, Bool.false_and]
theorem Q2G (t : List Place) (ht : TabOK t) (v : AV) (hv : (Slot.val v).list? = some (t.map Place.enc)) (s : St) : Ret (cw (.f Zm) [v] s) s (.bool (rightTD t)) := by
 obtain ⟨s1, e1, g1⟩ := Q2H s
 have hlen := ht.len
 have h6 : ((startD.length : Nat) : Int) = 6 := rfl
 rw [QcI]
 by_cases h : (t.length : Int) < 6
 ·refine ⟨s1, ?_, g1⟩
  simp only [go_sem, e1, hv, List.length_map, h6, h, decide_true, rightTD, Bool.not_true, Bool.false_and]
 ·have hd : (t.drop 6).length < 2^26 := by rw [List.length_drop]; omega
  obtain ⟨w, e0, hw⟩ := QaD (t := C.ti Qz) Q73 hv (sz := 10) (fun x hx => by
   obtain ⟨p, _, rfl⟩ := List.mem_map.1 hx
   exact Place.cells_len p) (by decide) (lo := some (.val (.int .i64 ((6 : Nat) : Int)))) (hi := none) rfl (Q58 (by rw [List.length_map]; omega))
  rw [List.take_length, ← List.map_drop] at hw
  rw [show ((6 : Nat) : Int) = 6 from rfl] at e0
  obtain ⟨s2, e2, g2⟩ := Q3r (.val v) (t.drop 6) (.val w) hw hd s1 (t.drop 6) [] (.val .nils) s1 [] 0 rfl rfl ⟨.refl _, .inl ⟨rfl, rfl⟩, by simp, by simp, by simp, by simp⟩ (by simp)
  obtain ⟨s3, e3, g3⟩ := Q3s t ht v hv (decsD t) (by have := QfV t; have := ht.size; omega) (QfU ht.ok) (decsD t) [] s2 0 rfl rfl (by simp)
  rw [show ((0 : Nat) : Int) = 0 from rfl] at e2 e3
  refine ⟨s3, ?_, (g1.trans g2).trans g3⟩
  simp only [go_sem, e1, hv, List.length_map, h6, h, decide_false, e0, hw, rightTD, Bool.not_false, Bool.true_and]
  rw [e2]
  exact e3
end Go.Proofs.YtoahliipbclneaaGreat
namespace Go.Am
open Go
theorem Qdm (sub : List UInt8) : Go.Lib.contains [] sub = sub.isEmpty := by
 unfold Go.Lib.contains Go.Lib.index
 cases sub.isEmpty <;> rfl
theorem Q3K (c : UInt8) (s sub : List UInt8) : Go.Lib.contains (c :: s) sub = (sub.isPrefixOf (c :: s) || Go.Lib.contains s sub) := by
 have h := Go.Lib.index_ge s sub
 unfold Go.Lib.contains
 rw [Go.Lib.index]
 cases sub.isPrefixOf (c :: s) with
 | true => rfl
 | false =>
   simp only [Bool.false_eq_true, if_false, Bool.false_or]
   by_cases h1 : Go.Lib.index s sub = -1
   ·rw [h1]; rfl
   ·have h2 : (Go.Lib.index s sub == -1) = false := by simpa using h1
    rw [h2]
    simp only [Bool.false_eq_true, if_false]
    congr 1
    rw [eq_iff_iff]
    omega
theorem Qcu : ∀ (w T x : List UInt8), (∀ c ∈ w, c ≠ 32) → Go.Lib.contains (w ++ T) (32 :: x) = Go.Lib.contains T (32 :: x)
 | [], _, _, _ => rfl
 | c :: w, T, x, h => by
   have hc : ((32 : UInt8) == c) = false := by have := h c (by simp); rw [beq_eq_false_iff_ne]; exact fun e => this e.symm
   rw [List.cons_append, Q3K, List.isPrefixOf, hc, Bool.false_and, Bool.false_or]
   exact Qcu w T x fun d hd => h d (List.mem_cons_of_mem _ hd)
theorem Q8E : ∀ (l w T : List UInt8), (∀ c ∈ l, c ≠ 32) → (∀ c ∈ w, c ≠ 32) → (l ++ [32]).isPrefixOf (w ++ 32 :: T) = decide (l = w)
 | [], [], T, _, _ => by simp [List.isPrefixOf]
 | [], c :: w, T, _, h => by
   have hc : ((32 : UInt8) == c) = false := by have := h c (by simp); rw [beq_eq_false_iff_ne]; exact fun e => this e.symm
   simp [List.isPrefixOf, hc]
 | a :: l, [], T, h, _ => by
   have hc : (a == (32 : UInt8)) = false := by have := h a (by simp); rw [beq_eq_false_iff_ne]; exact this
   simp [List.isPrefixOf, hc]
 | a :: l, c :: w, T, h, g => by
   have ih := Q8E l w T (fun d hd => h d (List.mem_cons_of_mem _ hd)) (fun d hd => g d (List.mem_cons_of_mem _ hd))
   rw [List.cons_append, List.cons_append, List.isPrefixOf, ih]
   by_cases hac : a = c
   ·subst hac; simp
   ·have : (a == c) = false := by rw [beq_eq_false_iff_ne]; exact hac
    simp [this, hac]
theorem QfG (l : Str) (hl : ∀ c ∈ l, c ≠ 32) : ∀ ws : List Str, (∀ w ∈ ws, ∀ c ∈ w, c ≠ 32) → Go.Lib.contains (32 :: (ws.flatMap fun w => w ++ [32])) (32 :: (l ++ [32])) = ws.any fun w => decide (l = w)
 | [], _ => by
   rw [List.flatMap_nil, Q3K, Qdm]
   cases l <;> simp [List.isPrefixOf]
 | w :: ws, h => by
   have hw := h w (by simp)
   have e : (w :: ws).flatMap (fun w => w ++ [32]) = w ++ 32 :: (ws.flatMap fun w => w ++ [32]) := by simp
   rw [e, Q3K, List.isPrefixOf, beq_self_eq_true, Bool.true_and, Q8E l w _ hl hw, Qcu w _ _ hw, QfG l hl ws fun v hv => h v (List.mem_cons_of_mem _ hv), List.any_cons]
def wordsAll : List Str := wordsR ++ [[116, 114, 117, 101], [102, 97, 108, 115, 101], [95]]
theorem QiQ : wordsS = 32 :: (wordsAll.flatMap fun w => w ++ [32]) := by decide +kernel
theorem Qf8 : ∀ w ∈ wordsAll, ∀ c ∈ w, c ≠ 32 := by decide +kernel
theorem QjO (n : Int) : restR n = !unrestB n := by
 simp only [restR, unrestB, smallB, greatB]
 by_cases h1 : n ≥ 97 <;> by_cases h2 : n ≤ 122 <;> by_cases h3 : n = 95 <;> by_cases h4 : n ≥ 65 <;> by_cases h5 : n ≤ 90 <;> by_cases h6 : n < 48 <;> by_cases h7 : n > 57 <;> by_cases h8 : n = 39 <;> simp [h1, h2, h3, h4, h5, h6, h7, h8] <;> omega
theorem Q7L (l : Str) (cap : Bool) : shapedR l cap = (!decide (l = []) && letterR (headB l) cap && runB l) := by
 have e : ((l.drop 1).all fun c => restR c.toNat) = restAll (l.drop 1) := by
  unfold restAll
  congr 1
  funext c
  exact QjO _
 unfold shapedR runB
 rw [e]
 have e1 : decide ((l.length : Int) < 1) = decide (l = []) := by cases l <;> simp; omega
 have e2 : decide ((l.length : Int) > 32) = !decide (l.length ≤ 32) := by
  by_cases h : l.length ≤ 32
  ·rw [decide_eq_true h, decide_eq_false (by omega)]; rfl
  ·rw [decide_eq_false h, decide_eq_true (by omega)]; rfl
 rw [e1, e2]
 cases decide (l = []) <;> cases decide (l.length ≤ 32) <;> cases letterR (headB l) cap <;> cases restAll (l.drop 1) <;> rfl
theorem QgL (l : Str) : capR l = capB l := Q7L l true
theorem QgP (l : Str) : conR l = conB l := by unfold conR conB; rw [QgL]
theorem Qit (l : Str) (h : shapedR l false = true) : ∀ c ∈ l, c ≠ 32 := by
 rw [Q7L] at h
 simp only [Bool.and_eq_true] at h
 obtain ⟨⟨h0, h1⟩, h2⟩ := h
 cases l with
 | nil => intro c hc; cases hc
 | cons a l =>
   intro c hc e
   subst e
   rcases List.mem_cons.1 hc with rfl | hc
   ·change letterR 32 false = true at h1
    revert h1; decide
   ·simp only [runB, Bool.and_eq_true, restAll, List.drop_one, List.tail_cons, List.all_eq_true] at h2
    have := h2.1 32 hc
    revert this; decide
theorem Q7w (l : Str) : lowR l = lowB l := by
 unfold lowR
 have e : lowB l = (shapedR l false && !Go.Lib.contains wordsS (32 :: (l ++ [32]))) := by rw [Q7L]; rfl
 rw [e]
 cases hs : shapedR l false with
 | false => rfl
 | true =>
   rw [QiQ, QfG l (Qit l hs) wordsAll Qf8]
   unfold wordsAll amongR
   rw [List.any_append]
   have e3 : (wordsR.any fun w => decide (w = l)) = wordsR.any fun w => decide (l = w) := by congr 1; funext w; congr 1; rw [eq_iff_iff]; exact eq_comm
   rw [e3]
   simp only [List.any_cons, List.any_nil]
   cases (wordsR.any fun w => decide (l = w)) <;> cases decide (l = [95]) <;> cases decide (l = [116, 114, 117, 101]) <;> cases decide (l = [102, 97, 108, 115, 101]) <;> rfl
theorem QjG : lowB [105, 110, 116] = true := by decide +kernel
theorem Qik : lowB [98, 111, 111, 108] = true := by decide +kernel
theorem Qil : lowB [117, 110, 105, 116] = true := by decide +kernel
theorem QjF : lowB [101, 120, 110] = true := by decide +kernel
end Go.Am
namespace Go.Proofs.YtoahliipbclneaaGreat
open Go Go.Am
set_option linter.unusedVariables false
set_option maxRecDepth 4000
theorem Q4S (n : Int) (s : St) (h : -9223372036854775808 ≤ n) (h' : n ≤ 9223372036854775807) : cw (.f Q2b) [.int .i64 n] s = some (.ret (.val (.bool (isIntB n))), s) := by
 rw [Qbw]
 have h1 : -2147483648 < n.tmod 2147483648 := Int.lt_tmod_of_pos n (by decide)
 have h2 : n.tmod 2147483648 < 2147483648 := Int.tmod_lt_of_pos n (by decide)
 have h3 : n = 2147483648 * n.tdiv 2147483648 + n.tmod 2147483648 := (Int.mul_tdiv_add_tmod n 2147483648).symm
 have h4 : 0 ≤ n → 0 ≤ n.tmod 2147483648 := fun h => Int.tmod_nonneg _ h
 have h5 : n ≤ 0 → n.tmod 2147483648 ≤ 0 := fun h => by have := Int.tmod_nonneg (2147483648) (show 0 ≤ -n by omega); rw [Int.neg_tmod] at this; omega
 simp only [go_sem, Qaq]
 generalize n.tmod 2147483648 = m at *
 generalize n.tdiv 2147483648 = d at *
 refine congrArg (fun b => some (Out.ret (Slot.val (AV.bool b)), s)) ?_
 rw [Bool.eq_iff_iff]
 simp only [isIntB, Bool.and_eq_true, decide_eq_true_eq, Bool.cond_decide]
 split <;> split <;> omega
theorem Qbu (e : Exp) (s : St) (hn : e.name.length < 2^62) (hl : e.kids.length < 2^40) (h : -9223372036854775808 ≤ e.n) (h' : e.n ≤ 9223372036854775807) : cw (.f Q5u) [e.enc] s = some (.ret (.val (.int .i64 (wrongExpB e))), s) := by
 obtain ⟨k, a, nm, n, l, lb, c, cb, d, db⟩ := e
 rw [Qe9]
 have hl' : l.length < 2^40 := hl
 have hi := fun s => Q4S n s h h'
 have hk : k = 1 ∨ k = 2 ∨ k = 3 ∨ k = 4 ∨ k = 5 ∨ k = 6 ∨ k = 7 ∨ k = 8 ∨ k = 9 ∨ k = 10 ∨ k = 11 ∨ k = 12 ∨ k = 13 ∨ k = 14 ∨ k = 15 ∨ k = 16 ∨ k = 17 ∨ k = 18 ∨ k = 19 ∨ k = 20 ∨ (k < 1 ∨ k > 20) := by omega
 rcases hk with rfl | rfl | rfl | rfl | rfl | rfl | rfl | rfl | rfl | rfl | rfl | rfl | rfl | rfl | rfl | rfl | rfl | rfl | rfl | rfl | hk
 rotate_left 20
 ·have h : (decide (k < 1) || decide (k > 20)) = true := by simpa using hk
  have e : wrongExpB (Exp.mk k a nm n l lb c cb d db) = 29 := by
   show (bif (decide (k < 1) || decide (k > 20) || _ || _ || _ || _ || _) then (29 : Int) else _) = 29
   rw [h]; rfl
  simp only [go_sem, Nat.reduceAdd, Nat.reduceLeDiff, h, e]
 all_goals
  simp only [go_sem, Int.reduceEq, Int.reduceGT, Int.reduceLT, Nat.reduceAdd, Nat.reduceLeDiff, QcU, Q9m, Q9n, Q0I nm _ hn, Q5W nm _ hn, hi, Q2e, wrongExpB, expLM, Exp.kind, Exp.name, Exp.n, Exp.kids, Exp.cases, Exp.decs, Q7w, QgP, isR]
  try rfl
 all_goals grind
theorem Qbx (t : Pat) (s : St) (hn : t.name.length < 2^62) (h : -9223372036854775808 ≤ t.n) (h' : t.n ≤ 9223372036854775807) : cw (.f Q5v) [t.enc] s = some (.ret (.val (.int .i64 (wrongPatB t))), s) := by
 obtain ⟨k, a, nm, n, l, nl⟩ := t
 rw [Qeb]
 have hi := fun s => Q4S n s h h'
 have hk : k = 1 ∨ k = 2 ∨ k = 3 ∨ k = 4 ∨ k = 5 ∨ k = 6 ∨ (k < 1 ∨ k > 6) := by omega
 rcases hk with rfl | rfl | rfl | rfl | rfl | rfl | hk
 rotate_left 6
 ·have h : (decide (k < 1) || decide (k > 6)) = true := by simpa using hk
  have e : wrongPatB (Pat.mk k a nm n l nl) = 29 := by
   show (bif (decide (k < 1) || decide (k > 6)) then (29 : Int) else _) = 29
   rw [h]; rfl
  simp only [go_sem, Nat.reduceAdd, Nat.reduceLeDiff, h, e]
 all_goals
  simp only [go_sem, Int.reduceEq, Int.reduceGT, Int.reduceLT, Nat.reduceAdd, Nat.reduceLeDiff, Q0I nm _ hn, Q5W nm _ hn, hi, Q2e, wrongPatB, patLM, Pat.kind, Pat.name, Pat.n, Pat.kids, Q7w, QgP, isR]
  try rfl
 all_goals grind
def argsR (nm : Str) : Int × Int :=
 bif decide (nm = [105, 110, 116]) || decide (nm = [98, 111, 111, 108]) || decide (nm = [117, 110, 105, 116]) || decide (nm = [101, 120, 110]) then (0, 0) else bif decide (nm = [114, 101, 102]) then (1, 1) else bif decide (nm = [45, 62]) then (2, 2) else bif decide (nm = [42]) then (2, 8) else (0, 8)
theorem Qar (nm : Str) (s : St) : cw (.f Q2t) [.str nm] s = some (.ret (.val (.tup [.int .i64 (argsR nm).1, .int .i64 (argsR nm).2])), s) := by
 rw [QcR]
 simp only [go_sem, Q9c]
 delta argsR
 generalize decide (nm = [105, 110, 116]) = x1
 generalize decide (nm = [98, 111, 111, 108]) = x2
 generalize decide (nm = [117, 110, 105, 116]) = x3
 generalize decide (nm = [101, 120, 110]) = x4
 generalize decide (nm = [114, 101, 102]) = x5
 generalize decide (nm = [45, 62]) = x6
 generalize decide (nm = [42]) = x7
 cases x1 <;> cases x2 <;> cases x3 <;> cases x4 <;> cases x5 <;> cases x6 <;> cases x7 <;> rfl
theorem Q88 (t : Ty) (s : St) : cw (.f Q39) [t.enc] s = some (.ret (.val (.bool (decide (t.kind = 0) && decide (t.n = 0) && decide (t.name = []) && decide ((t.args.length : Int) = 0)))), s) := by
 rw [QaA]
 simp only [go_sem, Nat.reduceAdd, Nat.reduceLeDiff, Ty.cells_eq]
theorem QcW (t : Ty) (s : St) (hn : t.name.length < 2^62) : cw (.f Q65) [t.enc] s = some (.ret (.val (.int .i64 (wrongTyB t))), s) := by
 obtain ⟨k, n, nm, l, nl⟩ := t
 rw [QeX]
 simp only [go_sem, Nat.reduceAdd, Nat.reduceLeDiff, Qar, Q0I nm _ hn, Q2e, Q7w]
 show _ = some (Out.ret (.val (.int .i64 (wrongTyC k n nm l.length))), s)
 by_cases h1 : nm = [105, 110, 116]
 ·subst h1; simp (decide := true) only [wrongTyC, tyLM, argsR, isR, QjG]; grind
 by_cases h2 : nm = [98, 111, 111, 108]
 ·subst h2; simp (decide := true) only [wrongTyC, tyLM, argsR, isR, Qik]; grind
 by_cases h3 : nm = [117, 110, 105, 116]
 ·subst h3; simp (decide := true) only [wrongTyC, tyLM, argsR, isR, Qil]; grind
 by_cases h4 : nm = [101, 120, 110]
 ·subst h4; simp (decide := true) only [wrongTyC, tyLM, argsR, isR, QjF]; grind
 simp only [wrongTyC, tyLM, argsR, isR, h1, h2, h3, h4]
 grind
theorem Qbs (d : Dec) (inn : Bool) (s : St) (hn : d.name.length < 2^62) : cw (.f Q5t) [d.enc, .bool inn] s = some (.ret (.val (.int .i64 (wrongDecB d inn))), s) := by
 obtain ⟨k, a, nm, p, l, nb, c, cb, f, fb⟩ := d
 rw [Qe8]
 simp only [go_sem, Nat.reduceAdd, Nat.reduceLeDiff, Q0I nm _ hn, Q2e, Q7w, isR]
 show _ = some (Out.ret (.val (.int .i64 (wrongDecC k nm p l.length c.length f.length inn))), s)
 have hk : k = 1 ∨ k = 2 ∨ k = 3 ∨ k = 4 ∨ (k ≠ 1 ∧ k ≠ 2 ∧ k ≠ 3 ∧ k ≠ 4) := by omega
 simp only [wrongDecC]
 rcases hk with rfl | rfl | rfl | rfl | ⟨h1, h2, h3, h4⟩
 all_goals grind
end Go.Proofs.YtoahliipbclneaaGreat
namespace Go.Proofs.YtoahliipbclneaaGreat
open Go Go.Am
set_option linter.unusedVariables false
set_option maxRecDepth 4000
abbrev Nodes (r : Res) (s : St) (l : List TNode) : Prop := RetA r Qa s (l.map TNode.enc)
abbrev NAcc (s0 s : St) (x : Slot) (l : List TNode) : Prop := AccR Qa s0 s x (l.map TNode.enc)
theorem nacc {s0 s : St} {x y : Slot} {A B : List TNode} (h : NAcc s0 s x A) (hy : y.list? = some (B.map TNode.enc)) (b : A.length + B.length < 2^30) : ∃ x' s', appendS Qa (C.ti Qa) s x y = some (x', s') ∧ NAcc s0 s' x' (A ++ B) :=
 AccR.appendF h hy (fun a => by rw [Q3P]; exact TNode.cells_len a) (by rw [Q3P]; decide) b (by rw [Q74]; decide)
theorem Q5l (a : Int) (t : Ty) (hl : t.args.length < 2^40) (s0 : St) : ∀ (suf pre : List Ty) (A : List TNode) (x : Slot) (s : St) (i : Nat), NAcc s0 s x A → pre ++ suf = t.args → i = pre.length → (∀ t ∈ suf, ∀ s, Nodes (cw (.f Q0x) [t.enc, .int .i64 a] s) s (nodesTy a t)) → A.length + Ty.sizes suf < 2^30 →
  Nodes (Q1d (.val (.int .i64 a)) (t.cells.map .val) x (.val (.int .i64 i)) s) s0 (A ++ nodesTys a suf)
 | [], pre, A, x, s, i, hx, h, hi, H, hb => by
   subst hi
   rw [Q4Q]; simp only [go_sem, Nat.reduceAdd, Nat.reduceLeDiff, Ty.cells_eq, Q9 (by simpa using h), nodesTys]
   exact RetA.mk hx
 | u :: suf, pre, A, x, s, i, hx, h, hi, H, hb => by
   subst hi
   obtain ⟨f1, f2, f3⟩ := Q8 (x := .val (encS t.nl (t.args.map Ty.enc))) (Qf _ _) h (by omega) (Ty.cells_len u) (by decide)
   obtain ⟨y, s1, e1, g1⟩ := H u (List.mem_cons_self) s
   have hlen := Q3o a u
   simp only [Ty.sizes] at hb
   obtain ⟨x', s2, e2, g2⟩ := nacc (hx.move g1.grew) g1.list? (by omega)
   have := Q5l a t hl s0 suf (pre ++ [u]) (A ++ nodesTy a u) x' s2 (pre.length + 1) g2 (by simpa using h) (by simp) (fun w hw => H w (List.mem_cons_of_mem _ hw)) (by rw [List.length_append]; omega)
   rw [Q4Q]; rw [Ty.cells_eq] at this ⊢; simp only [go_sem, Nat.reduceAdd, Nat.reduceLeDiff, f1, f2, f3, e1, e2] at this ⊢
   simp only [nodesTys]
   exact this
theorem Q5m : ∀ (m : Nat) (a : Int) (t : Ty) (s : St), t.size ≤ m → t.size < 2^28 → Nodes (cw (.f Q0x) [t.enc, .int .i64 a] s) s (nodesTy a t)
 | 0, a, .mk _ _ _ _ _, _, h, _ => by simp only [Ty.size] at h; omega
 | m + 1, a, .mk k n nm l nl, s, h, h' => by
   simp only [Ty.size] at h h'
   have hl := Ty.len_sizes l
   have := Q5l a (.mk k n nm l nl) (by simp only [Ty.args]; omega) s l [] [.ty (.mk k n nm l nl) a] (.full [(TNode.ty (.mk k n nm l nl) a).enc]) s 0 (AccR.full _ _ _) rfl rfl (fun u hu s => by have := Ty.mem_sizes hu; exact Q5m m a u s (by omega) (by omega)) (by simp only [List.length_singleton]; omega)
   rw [QcS]; simp only [go_sem, Nat.reduceAdd, Nat.reduceLeDiff, Ty.enc, TNode.cells, Dec.zero, Exp.zero, Pat.zero, Fun.zero, Case.zero, Con.zero, Ty.zero, Con.cells, TNode.enc, nodesTy] at this ⊢
   exact this
theorem Q4O (t : Pat) (hl : t.kids.length < 2^40) (s0 : St) : ∀ (suf pre : List Pat) (A : List TNode) (x : Slot) (s : St) (i : Nat), NAcc s0 s x A → pre ++ suf = t.kids → i = pre.length → (∀ t ∈ suf, ∀ s, Nodes (cw (.f ZZ) [t.enc] s) s (nodesPat t)) → A.length + Pat.sizes suf < 2^30 →
  Nodes (Q0O (t.cells.map .val) x (.val (.int .i64 i)) s) s0 (A ++ nodesPats suf)
 | [], pre, A, x, s, i, hx, h, hi, H, hb => by
   subst hi
   rw [Q3Y]; simp only [go_sem, Nat.reduceAdd, Nat.reduceLeDiff, Pat.cells_eq, Q9 (by simpa using h), nodesPats]
   exact RetA.mk hx
 | u :: suf, pre, A, x, s, i, hx, h, hi, H, hb => by
   subst hi
   obtain ⟨f1, f2, f3⟩ := Q8 (x := .val (encS t.kb (t.kids.map Pat.enc))) (Qf _ _) h (by omega) (Pat.cells_len u) (by decide)
   obtain ⟨y, s1, e1, g1⟩ := H u (List.mem_cons_self) s
   have hlen := Q2N u
   simp only [Pat.sizes] at hb
   obtain ⟨x', s2, e2, g2⟩ := nacc (hx.move g1.grew) g1.list? (by omega)
   have := Q4O t hl s0 suf (pre ++ [u]) (A ++ nodesPat u) x' s2 (pre.length + 1) g2 (by simpa using h) (by simp) (fun w hw => H w (List.mem_cons_of_mem _ hw)) (by rw [List.length_append]; omega)
   rw [Q3Y]; rw [Pat.cells_eq] at this ⊢; simp only [go_sem, Nat.reduceAdd, Nat.reduceLeDiff, f1, f2, f3, e1, e2] at this ⊢
   simp only [nodesPats]
   exact this
theorem Q4P : ∀ (m : Nat) (t : Pat) (s : St), t.size ≤ m → t.size < 2^28 → Nodes (cw (.f ZZ) [t.enc] s) s (nodesPat t)
 | 0, .mk _ _ _ _ _ _, _, h, _ => by simp only [Pat.size] at h; omega
 | m + 1, .mk k a nm n l nl, s, h, h' => by
   simp only [Pat.size] at h h'
   have hl := Pat.len_sizes l
   have := Q4O (.mk k a nm n l nl) (by simp only [Pat.kids]; omega) s l [] [.pat (.mk k a nm n l nl)] (.full [(TNode.pat (.mk k a nm n l nl)).enc]) s 0 (AccR.full _ _ _) rfl rfl (fun u hu s => by have := Pat.mem_sizes hu; exact Q4P m u s (by omega) (by omega)) (by simp only [List.length_singleton]; omega)
   rw [Qbn]; simp only [go_sem, Nat.reduceAdd, Nat.reduceLeDiff, Pat.enc, TNode.cells, Dec.zero, Exp.zero, Pat.zero, Fun.zero, Case.zero, Con.zero, Ty.zero, Con.cells, TNode.enc, nodesPat, Pat.at_] at this ⊢
   exact this
def ofExpOK (t : Exp) : Prop := ∀ s, Nodes (cw (.f Zy) [t.enc] s) s (nodesExp t)
def ofCaseOK (t : Case) : Prop := ∀ s, Nodes (cw (.f Q0w) [t.enc] s) s (nodesCase t)
def ofDecOK (t : Dec) : Prop := ∀ inn s, Nodes (cw (.f Zx) [t.enc, .bool inn] s) s (nodesDec inn t)
theorem Qau (p : Pat) (e : Exp) (h : ofExpOK e) (hs : (Case.mk p e).size < 2^28) : ofCaseOK (.mk p e) := fun s => by
 simp only [Case.size] at hs
 obtain ⟨y, s1, e1, g1⟩ := Q4P _ p s (Nat.le_refl _) (by omega)
 obtain ⟨z, s2, e2, g2⟩ := h s1
 have h1 := Q2N p
 have h2 := Q2M e
 obtain ⟨x', s3, e3, g3⟩ := nacc (g1.move g2.grew) g2.list? (by omega)
 rw [Qat]; simp only [go_sem, Nat.reduceAdd, Nat.reduceLeDiff, Nat.reduceSub, e1, e2, e3]
 simp only [nodesCase]
 exact RetA.mk g3
theorem Q31 (t : Exp) (hl : t.cases.length < 2^40) (s0 : St) : ∀ (suf pre : List Case) (A : List TNode) (x : Slot) (s : St) (i : Nat), NAcc s0 s x A → pre ++ suf = t.cases → i = pre.length → (∀ t ∈ suf, ofCaseOK t) → A.length + Case.sizes suf < 2^30 →
  Nodes (Q0N (t.cells.map .val) x (.val (.int .i64 i)) s) s0 (A ++ nodesCases suf)
 | [], pre, A, x, s, i, hx, h, hi, H, hb => by
   subst hi
   rw [Q3X]; simp only [go_sem, Exp.cells_eq, Q9 (by simpa using h), nodesCases]
   exact RetA.mk hx
 | u :: suf, pre, A, x, s, i, hx, h, hi, H, hb => by
   subst hi
   obtain ⟨f1, f2, f3⟩ := Q8 (x := .val (encS t.cb (t.cases.map Case.enc))) (Qf _ _) h (by omega) (Case.cells_len u) (by decide)
   obtain ⟨y, s1, e1, g1⟩ := H u (List.mem_cons_self) s
   have hlen := Q1a u
   simp only [Case.sizes] at hb
   obtain ⟨x', s2, e2, g2⟩ := nacc (hx.move g1.grew) g1.list? (by omega)
   have := Q31 t hl s0 suf (pre ++ [u]) (A ++ nodesCase u) x' s2 (pre.length + 1) g2 (by simpa using h) (by simp) (fun w hw => H w (List.mem_cons_of_mem _ hw)) (by rw [List.length_append]; omega)
   rw [Q3X]; rw [Exp.cells_eq] at this ⊢; simp only [go_sem, Nat.reduceLeDiff, f1, f2, f3, e1, e2] at this ⊢
   simp only [nodesCases]
   exact this
theorem Q30 (t : Exp) (hl : t.kids.length < 2^40) (hl2 : t.cases.length < 2^40) (Hc : ∀ c ∈ t.cases, ofCaseOK c) (s0 : St) : ∀ (suf pre : List Exp) (A : List TNode) (x : Slot) (s : St) (i : Nat), NAcc s0 s x A → pre ++ suf = t.kids → i = pre.length → (∀ t ∈ suf, ofExpOK t) → A.length + Exp.sizes suf + Case.sizes t.cases < 2^30 →
  Nodes (Q0M (t.cells.map .val) x (.val (.int .i64 i)) s) s0 (A ++ (nodesExps suf ++ nodesCases t.cases))
 | [], pre, A, x, s, i, hx, h, hi, H, hb => by
   subst hi
   have := Q31 t hl2 s0 t.cases [] A x s 0 hx rfl rfl Hc (by omega)
   rw [Q3W]; rw [Exp.cells_eq] at this ⊢; simp only [go_sem, Q9 (by simpa using h), nodesExps] at this ⊢
   exact this
 | u :: suf, pre, A, x, s, i, hx, h, hi, H, hb => by
   subst hi
   obtain ⟨f1, f2, f3⟩ := Q8 (x := .val (encS t.kb (t.kids.map Exp.enc))) (Qf _ _) h (by omega) (Exp.cells_len u) (by decide)
   obtain ⟨y, s1, e1, g1⟩ := H u (List.mem_cons_self) s
   have hlen := Q2M u
   simp only [Exp.sizes] at hb
   obtain ⟨x', s2, e2, g2⟩ := nacc (hx.move g1.grew) g1.list? (by omega)
   have := Q30 t hl hl2 Hc s0 suf (pre ++ [u]) (A ++ nodesExp u) x' s2 (pre.length + 1) g2 (by simpa using h) (by simp) (fun w hw => H w (List.mem_cons_of_mem _ hw)) (by rw [List.length_append]; omega)
   rw [Q3W]; rw [Exp.cells_eq] at this ⊢; simp only [go_sem, Nat.reduceLeDiff, f1, f2, f3, e1, e2] at this ⊢
   simp only [go_sem, nodesExps]
   exact this
theorem Q2Z (t : Exp) (hl0 : t.decs.length < 2^40) (hl : t.kids.length < 2^40) (hl2 : t.cases.length < 2^40) (He : ∀ c ∈ t.kids, ofExpOK c) (Hc : ∀ c ∈ t.cases, ofCaseOK c) (s0 : St) : ∀ (suf pre : List Dec) (A : List TNode) (x : Slot) (s : St) (i : Nat), NAcc s0 s x A → pre ++ suf = t.decs → i = pre.length → (∀ t ∈ suf, ofDecOK t) → A.length + Dec.sizes suf + Exp.sizes t.kids + Case.sizes t.cases < 2^30 →
  Nodes (Q0L (t.cells.map .val) x (.val (.int .i64 i)) s) s0 (A ++ (nodesDecs true suf ++ (nodesExps t.kids ++ nodesCases t.cases)))
 | [], pre, A, x, s, i, hx, h, hi, H, hb => by
   subst hi
   have := Q30 t hl hl2 Hc s0 t.kids [] A x s 0 hx rfl rfl He (by omega)
   rw [Q3V]; rw [Exp.cells_eq] at this ⊢; simp only [go_sem, Nat.reduceAdd, Nat.reduceLeDiff, Q9 (by simpa using h), nodesDecs] at this ⊢
   exact this
 | u :: suf, pre, A, x, s, i, hx, h, hi, H, hb => by
   subst hi
   obtain ⟨f1, f2, f3⟩ := Q8 (x := .val (encS t.db (t.decs.map Dec.enc))) (Qf _ _) h (by omega) (Dec.cells_len u) (by decide)
   obtain ⟨y, s1, e1, g1⟩ := H u (List.mem_cons_self) true s
   have hlen := Q4G true u
   simp only [Dec.sizes] at hb
   obtain ⟨x', s2, e2, g2⟩ := nacc (hx.move g1.grew) g1.list? (by omega)
   have := Q2Z t hl0 hl hl2 He Hc s0 suf (pre ++ [u]) (A ++ nodesDec true u) x' s2 (pre.length + 1) g2 (by simpa using h) (by simp) (fun w hw => H w (List.mem_cons_of_mem _ hw)) (by rw [List.length_append]; omega)
   rw [Q3V]; rw [Exp.cells_eq] at this ⊢; simp only [go_sem, Nat.reduceAdd, Nat.reduceLeDiff, f1, f2, f3, e1, e2] at this ⊢
   simp only [go_sem, nodesDecs]
   exact this
theorem Q1p (t : Dec) (hl : t.cons.length < 2^40) (s0 : St) : ∀ (suf pre : List Con) (A : List TNode) (x : Slot) (s : St) (i : Nat), NAcc s0 s x A → pre ++ suf = t.cons → i = pre.length → A.length + Con.sizes suf < 2^28 →
  Nodes (ZQ (t.cells.map .val) x (.val (.int .i64 i)) s) s0 (A ++ nodesCons suf)
 | [], pre, A, x, s, i, hx, h, hi, hb => by
   subst hi
   rw [Q1R]; simp only [go_sem, Nat.reduceAdd, Nat.reduceLeDiff, Dec.cells_eq, Q9 (by simpa using h), nodesCons]
   exact RetA.mk hx
 | .mk nm a hs arg :: suf, pre, A, x, s, i, hx, h, hi, hb => by
   subst hi
   obtain ⟨f1, f2, f3⟩ := Q8 (x := .val (encS t.nb (t.cons.map Con.enc))) (Qf _ _) h (by omega) (Con.cells_len ⟨nm, a, hs, arg⟩) (by decide)
   have hlen := Q3o a arg
   simp only [Con.sizes, Con.size] at hb
   obtain ⟨x', s2, e2, g2⟩ := nacc (B := [.con ⟨nm, a, hs, arg⟩]) (y := .full [(TNode.con ⟨nm, a, hs, arg⟩).enc]) hx rfl (by simp only [List.length_singleton]; omega)
   cases hs with
   | false =>
     have := Q1p t hl s0 suf (pre ++ [⟨nm, a, false, arg⟩]) (A ++ [.con ⟨nm, a, false, arg⟩]) x' s2 (pre.length + 1) g2 (by simpa using h) (by simp) (by simp only [List.length_append, List.length_singleton]; omega)
     rw [Q1R]; rw [Dec.cells_eq] at this ⊢; simp only [go_sem, Nat.reduceAdd, Nat.reduceLeDiff, f1, f2, f3, TNode.cells, Dec.zero, Exp.zero, Pat.zero, Fun.zero, Case.zero, Con.zero, Ty.zero, Con.cells, TNode.enc] at e2 this ⊢
     simp only [go_sem, e2, nodesCons, nodesCon]
     exact this
   | true =>
     obtain ⟨y, s1, e1, g1⟩ := Q5m _ a arg s2 (Nat.le_refl _) (by omega)
     obtain ⟨x3, s3, e3, g3⟩ := nacc (g2.move g1.grew) g1.list? (by simp only [List.length_append, List.length_singleton]; omega)
     have := Q1p t hl s0 suf (pre ++ [⟨nm, a, true, arg⟩]) (A ++ [.con ⟨nm, a, true, arg⟩] ++ nodesTy a arg) x3 s3 (pre.length + 1) g3 (by simpa using h) (by simp) (by simp only [List.length_append, List.length_singleton]; omega)
     rw [Q1R]; rw [Dec.cells_eq] at this ⊢; simp only [go_sem, Nat.reduceAdd, Nat.reduceLeDiff, f1, f2, f3, TNode.cells, Dec.zero, Exp.zero, Pat.zero, Fun.zero, Case.zero, Con.zero, Ty.zero, Con.cells, TNode.enc] at e2 this ⊢
     simp only [go_sem, e2, e1, e3, nodesCons, nodesCon]
     exact this
theorem Q2Y (t : Dec) (hl : t.funs.length < 2^40) (hl2 : t.cons.length < 2^40) (s0 : St) : ∀ (suf pre : List Fun) (A : List TNode) (x : Slot) (s : St) (i : Nat), NAcc s0 s x A → pre ++ suf = t.funs → i = pre.length → (∀ f ∈ suf, ofCaseOK f.case) → A.length + Fun.sizes suf + Con.sizes t.cons < 2^28 →
  Nodes (Q0K (t.cells.map .val) x (.val (.int .i64 i)) s) s0 (A ++ (nodesFuns suf ++ nodesCons t.cons))
 | [], pre, A, x, s, i, hx, h, hi, H, hb => by
   subst hi
   have := Q1p t hl2 s0 t.cons [] A x s 0 hx rfl rfl (by omega)
   rw [Q3U]; rw [Dec.cells_eq] at this ⊢; simp only [go_sem, Nat.reduceAdd, Nat.reduceLeDiff, Q9 (by simpa using h), nodesFuns] at this ⊢
   exact this
 | .mk nm a c :: suf, pre, A, x, s, i, hx, h, hi, H, hb => by
   subst hi
   obtain ⟨f1, f2, f3⟩ := Q8 (x := .val (encS t.fb (t.funs.map Fun.enc))) (Qf _ _) h (by omega) (Fun.cells_len (.mk nm a c)) (by decide)
   have hlen := Q1a c
   simp only [Fun.sizes, Fun.size] at hb
   obtain ⟨x', s2, e2, g2⟩ := nacc (B := [.fn (.mk nm a c)]) (y := .full [(TNode.fn (.mk nm a c)).enc]) hx rfl (by simp only [List.length_singleton]; omega)
   obtain ⟨y, s1, e1, g1⟩ := H (.mk nm a c) (List.mem_cons_self) s2
   simp only [Fun.case] at e1 g1
   obtain ⟨x3, s3, e3, g3⟩ := nacc (g2.move g1.grew) g1.list? (by simp only [List.length_append, List.length_singleton]; omega)
   have := Q2Y t hl hl2 s0 suf (pre ++ [.mk nm a c]) (A ++ [.fn (.mk nm a c)] ++ nodesCase c) x3 s3 (pre.length + 1) g3 (by simpa using h) (by simp) (fun w hw => H w (List.mem_cons_of_mem _ hw)) (by simp only [List.length_append, List.length_singleton]; omega)
   rw [Q3U]; rw [Dec.cells_eq] at this ⊢; simp only [go_sem, Nat.reduceAdd, Nat.reduceLeDiff, f1, f2, f3, TNode.cells, Dec.zero, Exp.zero, Pat.zero, Fun.zero, Case.zero, Con.zero, Ty.zero, Con.cells, TNode.enc, Fun.at_] at e2 this ⊢
   simp only [go_sem, e2, e1, e3, nodesFuns, nodesFun]
   exact this
theorem Q2X (t : Dec) (hl0 : t.case.length < 2^40) (hl : t.funs.length < 2^40) (hl2 : t.cons.length < 2^40) (Hf : ∀ f ∈ t.funs, ofCaseOK f.case) (s0 : St) : ∀ (suf pre : List Case) (A : List TNode) (x : Slot) (s : St) (i : Nat), NAcc s0 s x A → pre ++ suf = t.case → i = pre.length → (∀ f ∈ suf, ofCaseOK f) → A.length + Case.sizes suf + Fun.sizes t.funs + Con.sizes t.cons < 2^28 →
  Nodes (Q0J (t.cells.map .val) x (.val (.int .i64 i)) s) s0 (A ++ (nodesCases suf ++ (nodesFuns t.funs ++ nodesCons t.cons)))
 | [], pre, A, x, s, i, hx, h, hi, H, hb => by
   subst hi
   have := Q2Y t hl hl2 s0 t.funs [] A x s 0 hx rfl rfl Hf (by omega)
   rw [Q3T]; rw [Dec.cells_eq] at this ⊢; simp only [go_sem, Q9 (by simpa using h), nodesCases] at this ⊢
   exact this
 | u :: suf, pre, A, x, s, i, hx, h, hi, H, hb => by
   subst hi
   obtain ⟨f1, f2, f3⟩ := Q8 (x := .val (encS t.cb (t.case.map Case.enc))) (Qf _ _) h (by omega) (Case.cells_len u) (by decide)
   obtain ⟨y, s1, e1, g1⟩ := H u (List.mem_cons_self) s
   have hlen := Q1a u
   simp only [Case.sizes] at hb
   obtain ⟨x', s2, e2, g2⟩ := nacc (hx.move g1.grew) g1.list? (by omega)
   have := Q2X t hl0 hl hl2 Hf s0 suf (pre ++ [u]) (A ++ nodesCase u) x' s2 (pre.length + 1) g2 (by simpa using h) (by simp) (fun w hw => H w (List.mem_cons_of_mem _ hw)) (by rw [List.length_append]; omega)
   rw [Q3T]; rw [Dec.cells_eq] at this ⊢; simp only [go_sem, Nat.reduceLeDiff, f1, f2, f3, e1, e2] at this ⊢
   simp only [go_sem, nodesCases]
   exact this
theorem Qea : ∀ m : Nat, (∀ e : Exp, e.size ≤ m → e.size < 2^26 → ofExpOK e) ∧ (∀ l : Dec, l.size ≤ m → l.size < 2^26 → ofDecOK l) := by
 intro m
 induction m with
 | zero =>
   refine ⟨fun e h _ => ?_, fun l h _ => ?_⟩
   ·obtain ⟨k, a, nm, n, l, lb, c, cb, d, db⟩ := e
    simp only [Exp.size] at h; omega
   ·obtain ⟨k, a, nm, p, l, nb, c, cb, f, fb⟩ := l; simp only [Dec.size] at h; omega
 | succ m ih =>
   obtain ⟨ihE, ihD⟩ := ih
   have hcase1 : ∀ t : Case, t.size ≤ m + 1 → t.size < 2^26 → ofCaseOK t := fun t h h' => by
    obtain ⟨p, e⟩ := t
    exact Qau p e (ihE e (by simp only [Case.size] at h; omega) (by simp only [Case.size] at h'; omega)) (by omega)
   have hcase : ∀ (c : List Case), Case.sizes c ≤ m + 1 → Case.sizes c < 2^26 → ∀ t ∈ c, ofCaseOK t := fun c h h' t ht => by
    have := Case.mem_sizes ht
    exact hcase1 t (by omega) (by omega)
   refine ⟨fun e h h' s => ?_, fun d h h' inn s => ?_⟩
   ·obtain ⟨k, a, nm, n, l, lb, c, cb, d, db⟩ := e
    simp only [Exp.size] at h h'
    have hl := Exp.len_sizes l
    have hl2 := Case.len_sizes c
    have hl3 := Dec.len_sizes d
    have := Q2Z (.mk k a nm n l lb c cb d db) (by simp only [Exp.decs]; omega) (by simp only [Exp.kids]; omega) (by simp only [Exp.cases]; omega) (fun t ht => by have := Exp.mem_sizes ht; simp only [Exp.kids] at this; exact ihE t (by omega) (by omega)) (hcase c (by omega) (by omega)) s d [] [.exp (.mk k a nm n l lb c cb d db)] (.full [(TNode.exp (.mk k a nm n l lb c cb d db)).enc]) s 0 (AccR.full _ _ _) rfl rfl (fun t ht => ihD t (by have := Dec.mem_sizes ht; omega) (by have := Dec.mem_sizes ht; omega)) (by simp only [List.length_singleton, Exp.kids, Exp.cases]; omega)
    rw [Qbm]; simp only [go_sem, Nat.reduceAdd, Nat.reduceLeDiff, Exp.enc, TNode.cells, Dec.zero, Exp.zero, Pat.zero, Fun.zero, Case.zero, Con.zero, Ty.zero, Con.cells, TNode.enc, nodesExp, Exp.at_, Exp.kids, Exp.cases] at this ⊢
    exact this
   ·obtain ⟨k, a, nm, p, l, nb, c, cb, f, fb⟩ := d
    simp only [Dec.size] at h h'
    have hl := Con.len_sizes l
    have hl2 := Case.len_sizes c
    have hl3 := Fun.len_sizes f
    have := Q2X (.mk k a nm p l nb c cb f fb) (by simp only [Dec.case]; omega) (by simp only [Dec.funs]; omega) (by simp only [Dec.cons]; omega) (fun t ht => by
     have h2 := Fun.mem_sizes ht
     obtain ⟨nm, a, c'⟩ := t
     simp only [Dec.funs, Fun.size] at h2
     exact hcase1 c' (by omega) (by omega)) s c [] [.dec inn (.mk k a nm p l nb c cb f fb)] (.full [(TNode.dec inn (.mk k a nm p l nb c cb f fb)).enc]) s 0 (AccR.full _ _ _) rfl rfl (hcase c (by omega) (by omega)) (by simp only [List.length_singleton, Dec.funs, Dec.cons]; omega)
    rw [Qbl]; simp only [go_sem, Nat.reduceAdd, Nat.reduceLeDiff, Dec.enc, TNode.cells, Dec.zero, Exp.zero, Pat.zero, Fun.zero, Case.zero, Con.zero, Ty.zero, Con.cells, TNode.enc, nodesDec, Dec.at_, Dec.funs, Dec.cons] at this ⊢
    exact this
theorem Q6Q (L : List Dec) (z : Slot) (hz : z.list? = some (L.map Dec.enc)) (hl : L.length < 2^40) (s0 : St) : ∀ (suf pre : List Dec) (A : List TNode) (x : Slot) (s : St) (i : Nat), NAcc s0 s x A → pre ++ suf = L → i = pre.length → A.length + Dec.sizes suf < 2^26 →
  Nodes (Q1Z z x (.val (.int .i64 i)) s) s0 (A ++ nodesDecs false suf)
 | [], pre, A, x, s, i, hx, h, hi, hb => by
   subst hi
   rw [Q5X]; simp only [go_sem, hz, Q9 (by simpa using h), nodesDecs]
   exact RetA.mk hx
 | u :: suf, pre, A, x, s, i, hx, h, hi, hb => by
   subst hi
   obtain ⟨f1, f2, f3⟩ := Q8 hz h (by omega) (Dec.cells_len u) (by decide)
   simp only [Dec.sizes] at hb
   obtain ⟨y, s1, e1, g1⟩ := (Qea u.size).2 u (Nat.le_refl _) (by omega) false s
   have hlen := Q4G false u
   obtain ⟨x', s2, e2, g2⟩ := nacc (hx.move g1.grew) g1.list? (by omega)
   have := Q6Q L z hz hl s0 suf (pre ++ [u]) (A ++ nodesDec false u) x' s2 (pre.length + 1) g2 (by simpa using h) (by simp) (by rw [List.length_append]; omega)
   rw [Q5X]; simp only [go_sem, Nat.reduceLeDiff, hz, f1, f2, f3, e1, e2, nodesDecs] at this ⊢
   exact this
theorem QcT (l : List Dec) (nl : Bool) (s : St) (h : Dec.sizes l < 2^26) : Nodes (cw (.f Q4d) [encS nl (l.map Dec.enc)] s) s (nodesDecs false l) := by
 have hl := Dec.len_sizes l
 have := Q6Q l (.val (encS nl (l.map Dec.enc))) (by simp only [go_sem]) (by omega) s l [] [] (.val .nils) s 0 (AccR.nil _ _) rfl rfl (by simp only [List.length_nil]; omega)
 rw [QeV]
 exact this
end Go.Proofs.YtoahliipbclneaaGreat
namespace Go.Am
open Go
@[go_sem] theorem Qrd (b : Bool) (sz : Nat) (x : Slot) (r : List Slot) : gd b (fullO (bslS sz (gdV b x :: r))) = gd b (fullO (bslS sz (x :: r))) := by cases b <;> rfl
end Go.Am
namespace Go.Proofs.YtoahliipbclneaaGreat
open Go Go.Am
set_option linter.unusedVariables false
set_option maxRecDepth 4000
theorem QjQ {α : Type} {L M pre pre' suf' : List α} (h : pre ++ [] = L) (g : pre' ++ suf' = M) (hp : pre'.length = pre.length) (he : M.length = L.length) : suf' = [] := by
 have h1 := congrArg List.length h
 have h2 := congrArg List.length g
 simp only [List.length_append, List.length_nil] at h1 h2
 exact List.eq_nil_of_length_eq_zero (by omega)
theorem QiH {α : Type} {L M pre pre' suf suf' : List α} {t : α} (h : pre ++ t :: suf = L) (g : pre' ++ suf' = M) (hp : pre'.length = pre.length) (he : M.length = L.length) : ∃ u r, suf' = u :: r := by
 have h1 := congrArg List.length h
 have h2 := congrArg List.length g
 simp only [List.length_append, List.length_cons] at h1 h2
 cases suf' with
 | nil => simp only [List.length_nil] at h2; omega
 | cons u r => exact ⟨u, r, rfl⟩
def RSameTy (t : Ty) : Prop := ∀ u s, cw (.f Q0y) [t.enc, u.enc] s = some (.ret (.val (.bool (eqTy t u))), s)
theorem Q6R (t u : Ty) (hl : t.args.length < 2^40) (he : u.args.length = t.args.length) : ∀ (suf suf' pre pre' : List Ty) (s : St) (i : Nat), pre ++ suf = t.args → pre' ++ suf' = u.args → i = pre.length → pre'.length = pre.length → (∀ t ∈ suf, RSameTy t) →
  Q0f (t.cells.map .val) (u.cells.map .val) (.val (.int .i64 i)) s = some (.ret (.val (.bool (eqTys suf suf'))), s)
 | [], suf', pre, pre', s, i, h, g, hi, hp, H => by
   subst hi
   obtain rfl := QjQ h g hp he
   rw [Q3z]; simp only [go_sem, Nat.reduceAdd, Nat.reduceLeDiff, Ty.cells_eq, Q9 (by simpa using h), eqTys]
 | x :: suf, suf', pre, pre', s, i, h, g, hi, hp, H => by
   subst hi
   obtain ⟨y, suf', rfl⟩ := QiH h g hp he
   obtain ⟨f1, f2, f3⟩ := Q8 (x := .val (encS t.nl (t.args.map Ty.enc))) (Qf _ _) h (by omega) (Ty.cells_len x) (by decide)
   obtain ⟨-, g2, -⟩ := Q8 (x := .val (encS u.nl (u.args.map Ty.enc))) (Qf _ _) g (by omega) (Ty.cells_len y) (by decide)
   rw [hp] at g2
   have e1 := H x (List.mem_cons_self) y s
   have ih := Q6R t u hl he suf suf' (pre ++ [x]) (pre' ++ [y]) s (pre.length + 1) (by simpa using h) (by simpa using g) (by simp) (by simp [hp]) (fun w hw => H w (List.mem_cons_of_mem _ hw))
   rw [Q3z]; rw [Ty.cells_eq, Ty.cells_eq] at ih ⊢; simp only [go_sem, Nat.reduceAdd, Nat.reduceLeDiff, f1, f2, f3, g2, e1] at ih ⊢
   simp only [go_sem, ih, eqTys]
   cases eqTy x y <;> rfl
theorem Q7K : ∀ (m : Nat) (t : Ty), t.size ≤ m → t.size < 2^40 → RSameTy t
 | 0, .mk _ _ _ _ _, h, _ => by simp only [Ty.size] at h; omega
 | m + 1, .mk k n nm l nl, h, h' => fun u s => by
   obtain ⟨k', n', nm', l', nl'⟩ := u
   simp only [Ty.size] at h h'
   have hl := Ty.len_sizes l
   rw [Qav]
   by_cases he : l'.length = l.length
   ·have e1 := Q6R (.mk k n nm l nl) (.mk k' n' nm' l' nl') (by simp only [Ty.args]; omega) he l l' [] [] s 0 rfl rfl rfl rfl (fun t ht => by have := Ty.mem_sizes ht; exact Q7K m t (by omega) (by omega))
    simp only [go_sem] at e1
    rw [show ((0 : Nat) : Int) = 0 from rfl] at e1
    simp only [go_sem, Nat.reduceAdd, Nat.reduceLeDiff, Ty.enc, e1, eqTy, decide_eq_true (show ((l.length : Int) = l'.length) by omega)]
    generalize decide (k = k') = b1
    generalize decide (n = n') = b2
    generalize decide (nm = nm') = b3
    cases b1 <;> cases b2 <;> cases b3 <;> rfl
   ·simp only [go_sem, Nat.reduceAdd, Nat.reduceLeDiff, Ty.enc, eqTy, Q7l l l' (fun h => he h.symm), decide_eq_false (show ¬ ((l.length : Int) = l'.length) by omega)]
end Go.Proofs.YtoahliipbclneaaGreat
namespace Go.Proofs.YtoahliipbclneaaGreat
open Go Go.Am
set_option linter.unusedVariables false
set_option maxRecDepth 4000
def TabFit (t : List Place) : Prop := t.length < 2^26 ∧ ∀ p ∈ t, p.ty.size < 2^27
theorem TabFit.wide {t : List Place} (h : TabFit t) : ∀ p ∈ t, WideTy p.ty := fun p hp => Q2U _ (by have := h.2 p hp; omega)
end Go.Proofs.YtoahliipbclneaaGreat
namespace Go.Proofs.YtoahliipbclneaaGreat
open Go Go.Am
set_option linter.unusedVariables false
set_option maxRecDepth 4000
section
variable (t : List Place) (d : Dec) (v : AV) (s0 : St)
theorem TabFit.own {t : List Place} (h : TabFit t) : TabFit (t.map ownP) := ⟨by rw [List.length_map]; exact h.1, fun p hp => by
 obtain ⟨q, hq, rfl⟩ := List.mem_map.1 hp
 simp only [ownP, Q6r]; exact h.2 q hq⟩
end
end Go.Proofs.YtoahliipbclneaaGreat
namespace Go.Proofs.YtoahliipbclneaaGreat
open Go Go.Am
set_option linter.unusedVariables false
set_option maxRecDepth 4000
theorem Q9o (nd : TNode) (s : St) (h : nd.ok) : ∃ nm : Str, cw (.f Q3J) [nd.enc] s = some (.ret (.val (.tup [.int .i64 nd.wrong.1, .str nm])), s) ∧ (nd.wrong.1 = 8 → nm = nd.wrong.2) := by
 rw [Qby]
 cases nd with
 | dec inn d =>
   have hn : d.name.length < 2^62 := by simp only [TNode.ok] at h; omega
   have hw := fun s => Qbs d inn s hn
   obtain ⟨k, a, nm, p, l, nb, c, cb, f, fb⟩ := d
   simp only [go_sem, Dec.enc] at hw
   simp only [go_sem, Int.reduceEq, Nat.reduceAdd, Nat.reduceLeDiff, Nat.reduceSub, TNode.cells, hw]
   exact ⟨nm, rfl, fun _ => rfl⟩
 | exp e =>
   obtain ⟨h0, h1, h2, h3⟩ := h
   have hw := fun s => Qbu e s (by omega) h1 h2 h3
   obtain ⟨k, a, nm, n, l, lb, c, cb, d, db⟩ := e
   simp only [go_sem, Exp.enc] at hw
   simp only [go_sem, Int.reduceEq, Nat.reduceAdd, Nat.reduceLeDiff, Nat.reduceSub, TNode.cells, Dec.zero, hw]
   exact ⟨nm, rfl, fun _ => rfl⟩
 | pat e =>
   obtain ⟨h0, h2, h3⟩ := h
   have hw := fun s => Qbx e s (by omega) h2 h3
   obtain ⟨k, a, nm, n, l, lb⟩ := e
   simp only [go_sem, Pat.enc] at hw
   simp only [go_sem, Int.reduceEq, Nat.reduceAdd, Nat.reduceLeDiff, Nat.reduceSub, TNode.cells, Dec.zero, Exp.zero, hw]
   exact ⟨nm, rfl, fun _ => rfl⟩
 | ty e a =>
   have hn : e.name.length < 2^62 := by simp only [TNode.ok] at h; omega
   have hw := fun s => QcW e s hn
   obtain ⟨k, n, nm, l, lb⟩ := e
   simp only [go_sem, Ty.enc] at hw
   simp only [go_sem, Int.reduceEq, Nat.reduceAdd, Nat.reduceLeDiff, Nat.reduceSub, TNode.cells, Dec.zero, Exp.zero, Pat.zero, hw]
   exact ⟨nm, rfl, fun _ => rfl⟩
 | fn f =>
   have hn : f.name.length < 2^62 := by simp only [TNode.ok] at h; omega
   have hw := fun s => Q0I f.name s hn
   obtain ⟨nm, a, c⟩ := f
   simp only [Fun.name, Q7w] at hw
   simp only [go_sem, Int.reduceEq, Nat.reduceAdd, Nat.reduceLeDiff, Nat.reduceSub, TNode.cells, Dec.zero, Exp.zero, Pat.zero, Ty.zero, hw]
   cases hl : lowB nm
   ·simp only [go_sem]; exact ⟨nm, by simp only [TNode.wrong, Fun.name, hl]; rfl, fun _ => rfl⟩
   ·simp only [go_sem]; exact ⟨[], by simp only [TNode.wrong, Fun.name, hl]; rfl, fun h => by simp only [TNode.wrong, Fun.name, hl] at h; cases h⟩
 | con c =>
   have hn : c.name.length < 2^62 := by simp only [TNode.ok] at h; omega
   have hw := fun s => Q3w c.name s hn
   have hz := fun s => Q88 c.arg s
   obtain ⟨nm, a, hs, arg⟩ := c
   obtain ⟨tk, tn, tnm, tl, tb⟩ := arg
   simp only [QgL] at hw
   simp only [go_sem, Ty.enc] at hz
   simp only [go_sem, Int.reduceEq, Nat.reduceAdd, Nat.reduceLeDiff, TNode.cells, Con.cells, Dec.zero, Exp.zero, Pat.zero, Ty.zero, Fun.zero, Case.zero, hw, hz]
   have hb : (!hs && !(decide (tk = 0) && decide (tn = 0) && decide (tnm = []) && decide ((tl.length : Int) = 0))) = (!hs && (!decide (tk = 0) || !decide (tn = 0) || !decide (tnm = []) || decide ((tl.length : Int) > 0))) := by
    cases hs <;> by_cases h1 : tk = 0 <;> by_cases h2 : tn = 0 <;> by_cases h3 : tnm = [] <;> cases tl <;> simp [h1, h2, h3] <;> omega
   have key : ∀ b1 b2 : Bool, ∃ nm' : Str, some (Out.ret (Slot.val (bif b1 then AV.tup [.int .i64 29, .str []] else bif !b2 then AV.tup [.int .i64 8, .str nm] else AV.tup [.int .i64 0, .str []])), s) = some (Out.ret (Slot.val (.tup [.int .i64 (bif b1 then 29 else bif !b2 then 8 else 0), .str nm'])), s) ∧ ((bif b1 then (29 : Int) else bif !b2 then 8 else 0) = 8 → nm' = nm) := by
    intro b1 b2
    cases b1 <;> cases b2
    ·exact ⟨nm, rfl, fun _ => rfl⟩
    ·exact ⟨[], rfl, fun h => by cases h⟩
    ·exact ⟨[], rfl, fun h => by cases h⟩
    ·exact ⟨[], rfl, fun h => by cases h⟩
   obtain ⟨nm', e1, e2⟩ := key (!hs && !(decide (tk = 0) && decide (tn = 0) && decide (tnm = []) && decide ((tl.length : Int) = 0))) (capB nm)
   have hw2 : (TNode.con ⟨nm, a, hs, .mk tk tn tnm tl tb⟩).wrong = (bif (!hs && !(decide (tk = 0) && decide (tn = 0) && decide (tnm = []) && decide ((tl.length : Int) = 0))) then 29 else bif !capB nm then 8 else 0, nm) := by
    rw [hb]; rfl
   rw [hw2]
   exact ⟨nm', e1, e2⟩
end Go.Proofs.YtoahliipbclneaaGreat