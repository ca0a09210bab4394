/- A part of the proof: SDecl4, SDecl5, PRef11, PWithin, PRight, PDeclEq, PDecs, SDecl6, SFit. -/
import Derived.Test.YtoahliipbclneaaM8
import Derived.Test.YtoahliipbclneaaM10
set_option linter.unusedVariables false
set_option linter.unusedSimpArgs false
namespace Go.Proofs.Ytoahliipbclneaa
open Go Go.Am
set_option linter.unusedVariables false
set_option maxRecDepth 4000
theorem Q5O (n : Nat) : ∀ t ∈ varsTy n, WideTy t := by
 intro t ht
 obtain ⟨i, _, rfl⟩ := List.mem_map.1 ht
 exact Q8a _
theorem Q3D (d : Dec) (hp : d.params < 2^28) (s0 : St) : ∀ (k i : Nat) (x : Slot) (s : St), AccH Q4 s0.toks.length [] s x ((varsTy i).map Ty.enc) → Moves [] [] [] s0 s → i + k = d.params.toNat →
  Ret (Q00 (d.cells.map .val) (Ty.zero.cells.map .val) x (.val (.int .i64 d.params)) (.val (.int .i64 i)) s) s0 (.tup [(ofTy d.name (varsTy d.params.toNat)).enc, .int .i64 d.params])
 | 0, i, x, s, a, m, h => by
   have hi : i = d.params.toNat := by omega
   have hd : decide ((i : Int) < d.params) = false := by simp only [decide_eq_false_iff_not]; omega
   rw [Q36]
   have hav := a.av
   obtain ⟨s1, e1, g1⟩ := Q2u d.name (varsTy i) (encS true ((varsTy i).map Ty.enc)) (Qk _ _) (by simp only [varsTy, List.length_map, List.length_range]; omega) (Q5O i) s
   subst hi
   simp only [Ty.enc, Ty.cells_eq] at e1
   simp only [go_sem, Nat.reduceAdd, Nat.reduceLeDiff, hd, Dec.cells_eq, List.map_cons, List.map_nil, Zt hav, e1, Ty.enc, Ty.cells_eq]
   exact ⟨s1, rfl, m.toGrew.trans g1⟩
 | k + 1, i, x, s, a, m, h => by
   have hd : decide ((i : Int) < d.params) = true := by simp only [decide_eq_true_eq]; omega
   obtain ⟨x2, s2, e2, a2, m2, -, -, -⟩ := tyAcc (B := [tvar (i : Int)]) a m (by simp) (y := .full [(tvar (i : Int)).enc]) rfl (by simp only [varsTy, List.length_map, List.length_range, List.length_singleton]; omega)
   have hv : varsTy i ++ [tvar (i : Int)] = varsTy (i + 1) := by simp [varsTy, List.range_succ]
   rw [hv] at a2
   have ih := Q3D d hp s0 k (i + 1) x2 s2 a2 m2 (by omega)
   rw [Q36]
   simp only [tvar, Ty.enc, Ty.cells_mk, List.map_nil, Q18] at e2
   simp only [go_sem, Nat.reduceAdd, Nat.reduceLeDiff, hd, e2, Q2Y (show i < 2^62 by omega)]
   exact ih
theorem Q7s (d : Dec) (hp : d.params < 2^28) (s : St) : Ret (cw (.f Q0S) [d.enc] s) s (.tup [(headD d).1.enc, .int .i64 (headD d).2]) := by
 rw [Q2I]
 by_cases h4 : d.kind = 4
 ·obtain ⟨s1, e1, g1⟩ := Q2u sExn [] .nils rfl (by simp) (by simp) s
  refine ⟨s1, ?_, g1⟩
  simp only [sExn, Ty.enc, Ty.cells_eq] at e1
  simp only [go_sem, Nat.reduceAdd, Nat.reduceLeDiff, Dec.enc, Dec.cells_eq, List.map_cons, List.map_nil, h4, decide_true, sExn, e1, headD, cond_true, Ty.enc, Ty.cells_eq]
 ·have e1 := Q3D d hp s d.params.toNat 0 (.val .nils) s (AccH.nil _ _ _ _) (.refl _ _ _) (by omega)
  rw [show ((0 : Nat) : Int) = 0 from rfl] at e1
  have e0 : cw (.f Q0S) [d.enc] s = Q00 (d.cells.map .val) (Ty.zero.cells.map .val) (.val .nils) (.val (.int .i64 d.params)) (.val (.int .i64 0)) s := by
   rw [Q2I]
   simp only [go_sem, Nat.reduceAdd, Dec.enc, Dec.cells_eq, List.map_cons, List.map_nil, decide_eq_false h4, Ty.zero]
  rw [← Q2I, e0]
  simpa only [headD, decide_eq_false h4, cond_false] using e1
theorem AccR.kset {e : TypeId} {s0 s s' : St} {x : Slot} {l : List AV} {ml : Nat} (a : AccR e s0 s x l) (m : ∀ hs, Moves [ml] hs hs s s') (t : s'.toks = s.toks) (h : s0.locs.length ≤ ml) : AccR e s0 s' x l :=
 a.relay t ((Moves.grew [] [] a.grew).since (m []) (fun i hi => by simp at hi; subst hi; exact .inr h) (by simp)).toGrew.1
def RetT (r : Res) (s0 : St) (o : List Place × TBad) : Prop := ∃ s' w, r = some (.ret (.val (.tup [w, o.2.enc])), s') ∧ (Slot.val w).list? = some (o.1.map Place.enc) ∧ Grew s0 s'
theorem QdD {a b : Ty} (ha : WideTy a) (hb : WideTy b) : WideTy (fnTy a b) := by
 unfold fnTy ofTy
 refine Q2y (by simp) fun t ht => ?_
 simp only [List.map_cons, List.map_nil, List.mem_cons, List.not_mem_nil, or_false] at ht
 rcases ht with rfl | rfl
 ·exact Q2W _ ha
 ·exact Q2W _ hb
def zb : List Slot := [.val (.int .i64 0), .val (.int .i64 0), .val (.str [])]
theorem Q6t (b : TBad) (hb : b.kind ≠ 0) (x6 : Slot) (s : St) : Q0r zb x6 (b.cells.map .val) s = some (.ret (.val (.tup [.nils, b.enc])), s) := by
 rw [Q3y]
 simp only [go_sem, Nat.reduceAdd, Nat.reduceLeDiff, TBad.cells, List.map_cons, List.map_nil, zb, decide_eq_false hb, Bool.not_false]
 rfl
theorem Q7q (x6 : Slot) (v : AV) (hv : x6.av = some v) (s : St) : Q0r zb x6 zb s = some (.ret (.val (.tup [v, TBad.zero.enc])), s) := by
 rw [Q3y]
 simp only [go_sem, Nat.reduceAdd, Nat.reduceLeDiff, TBad.cells, TBad.zero, zb, Q4y hv]
 rfl
section
variable (d : Dec) (g : Str → Option Int) (res : Ty) (vars : Int) (data : Str) (of_ : Int) (tl ml : Nat) (s0 : St)
noncomputable abbrev addL1 (x : Slot) (tag : Int) (i : Nat) (s : St) : Res := Q0V (d.cells.map .val) zb x (.val (.mp tl)) (.val (.mp ml)) (.val (.int .i64 tag)) (.val (.int .i64 of_)) (.val (.str data)) (res.cells.map .val) (.val (.int .i64 vars)) zb (.val (encS d.nb (d.cons.map Con.enc))) (.val (.int .i64 d.cons.length)) (.val (.int .i64 i)) s
noncomputable abbrev addJ1 (c : Con) (e : Int) (nm : Str) (x : Slot) (tag : Int) (i : Nat) (s : St) : Res := Zk (d.cells.map .val) zb x (.val (.mp tl)) (.val (.mp ml)) (.val (.int .i64 tag)) (.val (.int .i64 of_)) (.val (.str data)) (res.cells.map .val) (.val (.int .i64 vars)) zb (c.cells.map .val) (.val (.int .i64 e)) (.val (.str nm)) (.val (encS d.nb (d.cons.map Con.enc))) (.val (.int .i64 d.cons.length)) (.val (.int .i64 i)) s
structure AddAt (s : St) (x : Slot) (met : List Str) (out : List Place) : Prop where
 acc : AccR Q5 s0 s x (out.map Place.enc)
 map : MapSI s tl g
 kn : KN s ml met
variable {g tl ml s0}
theorem MapSI.at {s s' : St} {loc : Nat} {g : Str → Option Int} (h : MapSI s loc g) (e : s'.locs = s.locs) : MapSI s' loc g := by
 obtain ⟨es, c, D, h1, h2⟩ := h
 exact ⟨es, c, D, by rw [e]; exact h1, h2⟩
theorem AddAt.move {s s' : St} {x : Slot} {met : List Str} {out : List Place} (h : AddAt g tl ml s0 s x met out) (k : Grew s s') : AddAt g tl ml s0 s' x met out := ⟨h.acc.move k, h.map.move k, h.kn.moves (Moves.grew [] [] k) (by simp)⟩
theorem Q6s (c : Con) (e : Int) (he : e ≠ 0) (nm : Str) (x : Slot) (tag : Int) (i : Nat) (s : St) : addJ1 d res vars data of_ tl ml c e nm x tag i s = some (.ret (.val (.tup [.nils, (⟨e, c.at_, nm⟩ : TBad).enc])), s) := by
 have e1 := Q6t ⟨e, c.at_, nm⟩ he x s
 simp only [TBad.cells, List.map_cons, List.map_nil] at e1
 rw [← e1, addJ1, Q1M]
 simp only [go_sem, Nat.reduceAdd, Nat.reduceLeDiff, Con.cells, Ty.cells_eq, TBad.cells, List.map_cons, List.map_nil, zb, decide_eq_false he, Bool.not_false]
theorem Q7p (hr : WideTy res) (hne : ml ≠ tl) (h1 : s0.locs.length ≤ tl) (h2 : s0.locs.length ≤ ml) (c : Con) (hc : WideTy c.arg) (nm : Str) (x : Slot) (tag : Int) (i : Nat) (s : St) (met : List Str) (out : List Place) (a : AddAt g tl ml s0 s x met out) (ho : out.length < 2^28) (hm : met.length < 2^40) (ht0 : 0 ≤ tag) (ht : tag < 2^40) (hi : i < 2^40) :
  ∃ x' s', addJ1 d res vars data of_ tl ml c 0 nm x tag i s = addL1 d res vars data of_ tl ml x' (tag + 1) (i + 1) s' ∧ AddAt g tl ml s0 s' x' (met ++ [c.name]) (out ++ [conPlace res vars data tag of_ c]) := by
 obtain ⟨s1, e1, k1, m1, t1, -⟩ := a.kn.inc c.name (by omega)
 have a1 : AddAt g tl ml s0 s1 x (met ++ [c.name]) out := ⟨AccR.kset a.acc m1 t1 h2, a.map.moves (m1 []) (by simpa using Ne.symm hne), k1⟩
 obtain ⟨s2, e2, g2⟩ := Q9V res [] true s1 hr (by simp) (by simp)
 have a2 := a1.move g2
 have w1 : IntKind.i64.wrap (tag + 1) = tag + 1 := wrap64 (by omega) (by omega)
 have w2 := Q2Y (show i < 2^62 by omega)
 have gk := a.kn.get c.name
 simp only [List.map_nil, Q18] at e2
 cases hh : c.has with
 | true =>
   obtain ⟨s3, e3, g3⟩ := QaQ c.arg res s2 hc hr
   have a3 := a2.move g3
   obtain ⟨x', s4, e4, r4⟩ := placeAcc a3.acc (conPlace res vars data tag of_ c) (by omega)
   refine ⟨x', s4, ?_, ⟨r4, ?_, ?_⟩⟩
   ·rw [addJ1, Q1M]
    simp only [Ty.enc, Ty.cells_eq] at e2 e3
    simp only [Place.enc, Place.cells_eq, conPlace, hh, cond_true] at e4
    simp only [go_sem, Nat.reduceAdd, Nat.reduceLeDiff, Con.cells, Ty.cells_eq, List.map_cons, List.map_nil, hh, gk, e1, e2, e3]
    rw [Q3z]
    simp only [go_sem, Nat.reduceAdd, Nat.reduceLeDiff, hh, e4, w1, w2]
    simp only [addL1, Ty.cells_eq, List.map_cons, List.map_nil]
   ·exact a3.map.at (Q1q e4)
   ·exact a3.kn.at (by rw [Q1q e4])
 | false =>
   obtain ⟨x', s4, e4, r4⟩ := placeAcc a2.acc (conPlace res vars data tag of_ c) (by omega)
   refine ⟨x', s4, ?_, ⟨r4, a2.map.at (Q1q e4), a2.kn.at (by rw [Q1q e4])⟩⟩
   rw [addJ1, Q1M]
   simp only [Ty.enc, Ty.cells_eq] at e2
   simp only [Place.enc, Place.cells_eq, conPlace, hh, cond_false] at e4
   simp only [go_sem, Nat.reduceAdd, Nat.reduceLeDiff, Con.cells, Ty.cells_eq, List.map_cons, List.map_nil, hh, gk, e1, e2]
   rw [Q3z]
   simp only [go_sem, Nat.reduceAdd, Nat.reduceLeDiff, hh, e4, w1, w2]
   simp only [addL1, Ty.cells_eq, List.map_cons, List.map_nil]
theorem Q2E (hr : WideTy res) (hne : ml ≠ tl) (h1 : s0.locs.length ≤ tl) (h2 : s0.locs.length ≤ ml) (hl : d.cons.length < 2^26) (hw : ∀ c ∈ d.cons, WideTy c.arg) : ∀ (suf pre : List Con) (met : List Str) (tag : Int) (out : List Place) (x : Slot) (s : St) (i : Nat), pre ++ suf = d.cons → i = pre.length → AddAt g tl ml s0 s x met out → out.length + suf.length < 2^28 → met.length + suf.length < 2^40 → 0 ≤ tag → tag + suf.length < 2^40 →
  RetT (addL1 d res vars data of_ tl ml x tag i s) s0 (consD d.kind g res vars data of_ suf met tag out)
 | [], pre, met, tag, out, x, s, i, hp, hi, a, ho, hm, ht0, ht => by
   subst hi
   obtain ⟨nl, hav⟩ := a.acc.av
   refine ⟨s, _, ?_, Qk nl _, a.acc.grew⟩
   rw [addL1, Zp]; simp only [go_sem, Qd (by simpa using hp), Q7q x _ hav]
   rfl
 | c :: suf, pre, met, tag, out, x, s, i, hp, hi, a, ho, hm, ht0, ht => by
   subst hi
   obtain ⟨f1, f2, f3⟩ := Q8 (x := .val (encS d.nb (d.cons.map Con.enc))) (Qk _ _) hp (by omega) (Con.cells_len c) (by decide)
   have hlt : pre.length < d.cons.length := by rw [← hp]; simp
   have hcm : c ∈ d.cons := by rw [← hp]; simp
   simp only [List.length_cons] at ho hm ht
   have gk := a.kn.get c.name
   have hcnt : decide (((met.count c.name : Nat) : Int) > 0) = decide (c.name ∈ met) := by
    rw [decide_eq_decide]
    constructor
    ·intro h; exact List.count_pos_iff.1 (by omega)
    ·intro h; have := List.count_pos_iff.2 h; omega
   have bad : ∀ e nm s', e ≠ 0 → Grew s0 s' → conBad d.kind g vars tag met c = (e, nm) → addL1 d res vars data of_ tl ml x tag pre.length s = addJ1 d res vars data of_ tl ml c e nm x tag pre.length s' → RetT (addL1 d res vars data of_ tl ml x tag pre.length s) s0 (consD d.kind g res vars data of_ (c :: suf) met tag out) := fun e nm s' he hg hc hq => by
    refine ⟨s', .nils, ?_, ?_, hg⟩
    ·rw [hq, Q6s _ _ _ _ _ _ _ he]
     simp only [consD, hc]; rw [if_pos he]
    ·simp only [consD, hc]; rw [if_pos he]; rfl
   have good : ∀ nm s', AddAt g tl ml s0 s' x met out → (conBad d.kind g vars tag met c).1 = 0 → addL1 d res vars data of_ tl ml x tag pre.length s = addJ1 d res vars data of_ tl ml c 0 nm x tag pre.length s' → RetT (addL1 d res vars data of_ tl ml x tag pre.length s) s0 (consD d.kind g res vars data of_ (c :: suf) met tag out) := fun nm s' ha hc hq => by
    obtain ⟨x', s2, e2, a2⟩ := Q7p d res vars data of_ hr hne h1 h2 c (hw c hcm) nm x tag pre.length s' met out ha (by omega) (by omega) ht0 (by omega) (by omega)
    have ih := Q2E hr hne h1 h2 hl hw suf (pre ++ [c]) (met ++ [c.name]) (tag + 1) (out ++ [conPlace res vars data tag of_ c]) x' s2 (pre.length + 1) (by simpa using hp) (by simp) a2 (by simp only [List.length_append, List.length_cons, List.length_nil]; omega) (by simp only [List.length_append, List.length_cons, List.length_nil]; omega) (by omega) (by omega)
    rw [hq, e2]
    simp only [consD]; rw [if_neg (by simpa using hc)]
    exact ih
   by_cases hmem : c.name ∈ met
   ·refine bad 9 c.name s (by decide) a.acc.grew (by simp only [conBad, hmem, if_true]) ?_
    rw [addL1, Zp]
    simp only [go_sem, Nat.reduceAdd, Nat.reduceLeDiff, addJ1, f1, f2, Con.cells, Ty.cells_eq, List.map_cons, List.map_nil, gk, hcnt, hmem, decide_true]
   ·cases hx : (decide (d.kind = 4) && decide (tag > 1023)) with
    | true =>
      refine bad 19 c.name s (by decide) a.acc.grew (by simp only [conBad, hmem, if_false, hx, cond_true]) ?_
      rw [addL1, Zp]
      simp only [go_sem, Nat.reduceAdd, Nat.reduceLeDiff, addJ1, f1, f2, Con.cells, Ty.cells_eq, Dec.cells_eq, List.map_cons, List.map_nil, gk, hcnt, hmem, decide_false, hx]
    | false =>
      cases hh : c.has with
      | true =>
        obtain ⟨s1, e1, g1⟩ := Q6w g vars c.arg (hw c hcm) tl s a.map
        have e1' := e1
        simp only [Ty.enc, Ty.cells_eq] at e1'
        by_cases hz : (wrongD g vars c.arg).1 = 0
        ·refine good c.name s1 (a.move g1) (by simp only [conBad, hmem, if_false, hx, cond_false, hh, cond_true, hz, ne_eq, not_true_eq_false, if_false]) ?_
         rw [addL1, Zp]
         simp only [go_sem, Nat.reduceAdd, Nat.reduceLeDiff, addJ1, f1, f2, Con.cells, Ty.cells_eq, Dec.cells_eq, List.map_cons, List.map_nil, gk, hcnt, hmem, decide_false, hx, hh, e1', hz, decide_true, Bool.not_true]
        ·refine bad (wrongD g vars c.arg).1 (wrongD g vars c.arg).2 s1 hz (a.acc.grew.trans g1) (by simp only [conBad, hmem, if_false, hx, cond_false, hh, cond_true, hz, ne_eq, not_false_eq_true, if_true]) ?_
         rw [addL1, Zp]
         simp only [go_sem, Nat.reduceAdd, Nat.reduceLeDiff, addJ1, f1, f2, Con.cells, Ty.cells_eq, Dec.cells_eq, List.map_cons, List.map_nil, gk, hcnt, hmem, decide_false, hx, hh, e1', decide_eq_false hz, Bool.not_false]
      | false =>
        refine good c.name s a (by simp only [conBad, hmem, if_false, hx, cond_false, hh]) ?_
        rw [addL1, Zp]
        simp only [go_sem, Nat.reduceAdd, Nat.reduceLeDiff, addJ1, f1, f2, Con.cells, Ty.cells_eq, Dec.cells_eq, List.map_cons, List.map_nil, gk, hcnt, hmem, decide_false, hx, hh]
end
end Go.Proofs.Ytoahliipbclneaa
namespace Go.Proofs.Ytoahliipbclneaa
open Go Go.Am
set_option linter.unusedVariables false
set_option maxRecDepth 4000
theorem Q3T (d : Dec) (h : d.params < 2^28) : WideTy (headD d).1 := by
 unfold headD
 cases decide (d.kind = 4) with
 | true => exact Q2y (by simp) (by simp)
 | false =>
   refine Q2y (by simp only [List.length_map, varsTy, List.length_range]; omega) fun t ht => ?_
   obtain ⟨u, hu, rfl⟩ := List.mem_map.1 ht
   exact Q2W _ (Q5O _ u hu)
section
variable (d : Dec) (t : List Place) {tl ml : Nat} {s0 : St}
theorem Q2C (g : Str → Option Int) (data : Str) (of_ : Int) (hp : d.params < 2^28) (hne : ml ≠ tl) (h1 : s0.locs.length ≤ tl) (h2 : s0.locs.length ≤ ml) (hl : d.cons.length < 2^26) (hw : ∀ c ∈ d.cons, WideTy c.arg) (met : List Str) (tag : Int) (out : List Place) (x : Slot) (s : St) (a : AddAt g tl ml s0 s x met out) (ho : out.length < 2^27) (hm : met.length < 2^27) (ht0 : 0 ≤ tag) (ht : tag < 2^30) :
  RetT (Q0q (d.cells.map .val) zb x (.val (.mp tl)) (.val (.mp ml)) (.val (.int .i64 tag)) (.val (.int .i64 of_)) (.val (.str data)) s) s0 (consD d.kind g (headD d).1 (headD d).2 data of_ d.cons met tag out) := by
 obtain ⟨s1, e1, g1⟩ := Q7s d hp s
 have e2 := Q2E d (headD d).1 (headD d).2 data of_ (Q3T d hp) hne h1 h2 hl hw d.cons [] met tag out x s1 0 rfl rfl (a.move g1) (by omega) (by omega) ht0 (by omega)
 have e3 : Q0q (d.cells.map .val) zb x (.val (.mp tl)) (.val (.mp ml)) (.val (.int .i64 tag)) (.val (.int .i64 of_)) (.val (.str data)) s = addL1 d (headD d).1 (headD d).2 data of_ tl ml x tag 0 s1 := by
  rw [Q7o]
  simp only [Dec.enc, Dec.cells_eq, Ty.enc, Ty.cells_eq] at e1
  simp only [go_sem, Nat.reduceAdd, Nat.reduceLeDiff, addL1, Dec.cells_eq, Ty.cells_eq, List.map_cons, List.map_nil, e1, List.length_map, zb]
  rfl
 rw [e3]
 exact e2
def tagOf (d : Dec) (l : List Place) : Nat := bif decide (d.kind = 4) then exns l else 0
theorem Q8O (a b : List Place) : exns (a ++ b) = exns a + exns b := by simp [exns]
theorem Qa5 (a : List Place) : exns a ≤ a.length := List.length_filter_le _ _
theorem Q2D (hp : d.params < 2^28) (hne : ml ≠ tl) (h1 : s0.locs.length ≤ tl) (h2 : s0.locs.length ≤ ml) (hl : d.cons.length < 2^26) (hw : ∀ c ∈ d.cons, WideTy c.arg) (htl : t.length < 2^26) (y : Slot) (hy : y.list? = some (t.map Place.enc)) (x : Slot) : ∀ (suf pre : List Place) (s : St) (i : Nat), pre ++ suf = t → i = pre.length → AddAt (knownD t) tl ml s0 s x (pre.map Place.name) t →
  RetT (ZL (d.cells.map .val) zb x (.val (.mp tl)) (.val (.mp ml)) (.val (.int .i64 (tagOf d pre : Nat))) (.val (.int .i64 d.cons.length)) y (.val (.int .i64 t.length)) (.val (.int .i64 i)) s) s0 (addD t d)
 | [], pre, s, i, h, hi, a => by
   subst hi
   have hpt : pre = t := by simpa using h
   subst hpt
   have hx := Qa5 pre
   rw [Q3A]
   by_cases h3 : d.kind = 3
   ·have hk4 : d.kind ≠ 4 := by omega
    have gk := a.map.get2 d.name
    cases hg : knownD pre d.name with
    | some v =>
      rw [hg] at gk
      refine ⟨s, .nils, ?_, ?_, a.acc.grew⟩
      ·simp only [go_sem, Int.reduceEq, Nat.reduceAdd, Nat.reduceLeDiff, Qd rfl, Dec.cells_eq, List.map_cons, List.map_nil, h3, decide_true, gk, Option.getD_some, Option.isSome_some, zb, addD, cond_true, hg, TBad.enc, TBad.cells]
      ·simp only [addD, h3, decide_true, cond_true, hg, Option.isSome_some]; rfl
    | none =>
      rw [hg] at gk
      obtain ⟨s1, e1, h4, m1, t1, l1⟩ := a.map.set d.name d.params
      have a1 : AddAt (upd (knownD pre) d.name d.params) tl ml s0 s1 x (pre.map Place.name) pre := ⟨AccR.kset a.acc m1 t1 h1, h4, a.kn.moves (m1 []) (by simpa using hne)⟩
      have e2 := Q2C d (upd (knownD pre) d.name d.params) d.name d.cons.length hp hne h1 h2 hl hw (pre.map Place.name) 0 pre x s1 a1 (by omega) (by rw [List.length_map]; omega) (by omega) (by omega)
      have : addD pre d = consD d.kind (upd (knownD pre) d.name d.params) (headD d).1 (headD d).2 d.name d.cons.length d.cons (pre.map Place.name) 0 pre := by
       simp only [addD, h3, decide_true, cond_true, hg, Option.isSome_none, cond_false]
      rw [this]
      simp only [Dec.cells_eq, List.map_cons, List.map_nil] at e2
      simp only [go_sem, Int.reduceAdd, Int.reduceEq, Nat.reduceAdd, Nat.reduceLeDiff, Qd rfl, Dec.cells_eq, List.map_cons, List.map_nil, h3, decide_true, gk, Option.getD_none, Option.isSome_none, e1, tagOf, Int.reduceEq, decide_false, cond_false, Int.natCast_zero]
      simp only [h3] at e2
      exact e2
   ·by_cases h4 : d.kind = 4
    ·have e2 := Q2C d (knownD pre) sExn 0 hp hne h1 h2 hl hw (pre.map Place.name) (exns pre : Nat) pre x s a (by omega) (by rw [List.length_map]; omega) (by omega) (by omega)
     have : addD pre d = consD d.kind (knownD pre) (headD d).1 (headD d).2 sExn 0 d.cons (pre.map Place.name) (exns pre : Nat) pre := by
      simp only [addD, h4, Int.reduceEq, decide_false, decide_true, cond_true, cond_false]
     rw [this]
     simp only [Dec.cells_eq, List.map_cons, List.map_nil] at e2
     simp only [h4, sExn] at e2
     simp only [go_sem, Int.reduceEq, Nat.reduceAdd, Nat.reduceLeDiff, Qd rfl, Dec.cells_eq, List.map_cons, List.map_nil, h4, Int.reduceEq, decide_false, decide_true, tagOf, cond_true, sExn]
     exact e2
    ·obtain ⟨nl, hav⟩ := a.acc.av
     refine ⟨s, encS nl (pre.map Place.enc), ?_, ?_, a.acc.grew⟩
     rotate_left
     ·simp only [addD, decide_eq_false h3, decide_eq_false h4, cond_false]; exact Qk nl _
     ·simp only [go_sem, Nat.reduceAdd, Nat.reduceLeDiff, Qd rfl, Dec.cells_eq, List.map_cons, List.map_nil, decide_eq_false h3, decide_eq_false h4, zb, Q4y hav, addD, cond_false, TBad.zero]
      rfl
 | p :: suf, pre, s, i, h, hi, a => by
   subst hi
   obtain ⟨f1, f2, f3⟩ := Q8 hy h (by omega) (Place.cells_len p) (by decide)
   have hlt : pre.length < t.length := by rw [← h]; simp
   have hx := Qa5 pre
   obtain ⟨s1, e1, k1, m1, t1, -⟩ := a.kn.inc p.name (by rw [List.length_map]; omega)
   have a1 : AddAt (knownD t) tl ml s0 s1 x ((pre ++ [p]).map Place.name) t := ⟨AccR.kset a.acc m1 t1 h2, a.map.moves (m1 []) (by simpa using Ne.symm hne), by simpa using k1⟩
   have ih := Q2D hp hne h1 h2 hl hw htl y hy x suf (pre ++ [p]) s1 (pre.length + 1) (by simpa using h) (by simp) a1
   have gk := a.kn.get p.name
   have hT : IntKind.i64.wrap ((exns pre : Nat) + 1) = ((exns pre + 1 : Nat) : Int) := Q2Y (by omega)
   rw [Q3A]
   by_cases h4 : d.kind = 4
   ·by_cases hd : p.data = sExn
    ·have : tagOf d (pre ++ [p]) = exns pre + 1 := by simp [tagOf, h4, Q8O, exns, hd]
     rw [this] at ih
     have e0 : tagOf d pre = exns pre := by simp [tagOf, h4]
     rw [e0]
     simp only [Dec.cells_eq, List.map_cons, List.map_nil, h4] at ih
     simp only [sExn] at hd
     simp only [go_sem, Int.reduceEq, Nat.reduceAdd, Nat.reduceLeDiff, f1, f2, f3, Place.cells_eq, Dec.cells_eq, List.map_cons, List.map_nil, gk, e1, h4, decide_true, hd, hT]
     exact ih
    ·have : tagOf d (pre ++ [p]) = exns pre := by simp [tagOf, h4, Q8O, exns, hd]
     rw [this] at ih
     have e0 : tagOf d pre = exns pre := by simp [tagOf, h4]
     rw [e0]
     simp only [Dec.cells_eq, List.map_cons, List.map_nil, h4] at ih
     simp only [sExn] at hd
     simp only [go_sem, Int.reduceEq, Nat.reduceAdd, Nat.reduceLeDiff, f1, f2, f3, Place.cells_eq, Dec.cells_eq, List.map_cons, List.map_nil, gk, e1, h4, decide_true, decide_eq_false hd]
     exact ih
   ·have : tagOf d (pre ++ [p]) = tagOf d pre := by simp [tagOf, h4]
    rw [this] at ih
    simp only [Dec.cells_eq, List.map_cons, List.map_nil] at ih
    simp only [go_sem, Nat.reduceAdd, Nat.reduceLeDiff, f1, f2, f3, Place.cells_eq, Dec.cells_eq, List.map_cons, List.map_nil, gk, e1, decide_eq_false h4]
    exact ih
end
theorem Q4a (t : List Place) (d : Dec) (htl : t.length < 2^26) (hwt : ∀ p ∈ t, WideTy p.ty) (hp : d.params < 2^28) (hl : d.cons.length < 2^26) (hw : ∀ c ∈ d.cons, WideTy c.arg) (v : AV) (hv : (Slot.val v).list? = some (t.map Place.enc)) (s : St) : RetT (cw (.f QS) [v, d.enc] s) s (addD t d) := by
 obtain ⟨x, s1, e1, a1⟩ := Q5Y t (by omega) hwt v hv s
 obtain ⟨s2, e2, h2, g2⟩ := Q6u t (by omega) v hv s1
 have g3 : Grew s2 (s2.addLoc (.map [] 0)) := (Grew.refl _).addLoc _
 have e3 := Q2D d t (tl := s1.locs.length) (ml := s2.locs.length) (s0 := s) hp (by have := h2.lt; omega) a1.grew.locsLe (Nat.le_trans a1.grew.locsLe g2.locsLe) hl hw htl (.val v) hv x t [] (s2.addLoc (.map [] 0)) 0 rfl rfl ⟨(a1.move g2).move g3, h2.move g3, KN.new s2⟩
 have ht : tagOf d [] = 0 := by unfold tagOf; cases decide (d.kind = 4) <;> rfl
 rw [ht, show ((0 : Nat) : Int) = 0 from rfl] at e3
 have e4 : cw (.f QS) [v, d.enc] s = ZL (d.cells.map .val) zb x (.val (.mp s1.locs.length)) (.val (.mp s2.locs.length)) (.val (.int .i64 0)) (.val (.int .i64 d.cons.length)) (.val v) (.val (.int .i64 t.length)) (.val (.int .i64 0)) (s2.addLoc (.map [] 0)) := by
  rw [Q9F]
  simp only [go_sem, Nat.reduceAdd, Dec.enc, Dec.cells_eq, List.map_cons, List.map_nil, e1, e2, hv, List.length_map, zb]
 rw [e4]
 exact e3
theorem Q4D (k : Int) (g : Str → Option Int) (res : Ty) (vars : Int) (data : Str) (of_ : Int) : ∀ (l : List Con) (met : List Str) (tag : Int) (out : List Place), (consD k g res vars data of_ l met tag out).1.length ≤ out.length + l.length
 | [], _, _, _ => Nat.le_refl _
 | c :: l, met, tag, out => by
   simp only [consD]
   split
   ·simp
   ·have := Q4D k g res vars data of_ l (met ++ [c.name]) (tag + 1) (out ++ [conPlace res vars data tag of_ c])
    simp only [List.length_append, List.length_cons, List.length_nil] at this ⊢
    omega
theorem Q3R (k : Int) (g : Str → Option Int) (res : Ty) (hr : WideTy res) (vars : Int) (data : Str) (of_ : Int) : ∀ (l : List Con) (met : List Str) (tag : Int) (out : List Place), (∀ c ∈ l, WideTy c.arg) → (∀ p ∈ out, WideTy p.ty) → ∀ p ∈ (consD k g res vars data of_ l met tag out).1, WideTy p.ty
 | [], _, _, _, _, h => h
 | c :: l, met, tag, out, hl, h => by
   simp only [consD]
   split
   ·simp
   ·refine Q3R k g res hr vars data of_ l _ _ _ (fun c hc => hl c (List.mem_cons_of_mem _ hc)) fun p hp => ?_
    rcases List.mem_append.1 hp with hp | hp
    ·exact h p hp
    ·simp only [List.mem_singleton] at hp
     subst hp
     simp only [conPlace]
     cases c.has with
     | true => exact QdD (hl c List.mem_cons_self) hr
     | false => exact QcO res [] hr (by simp)
theorem QbW (t : List Place) (d : Dec) : (addD t d).1.length ≤ t.length + d.cons.length := by
 unfold addD
 cases decide (d.kind = 3) with
 | true =>
   simp only [cond_true]
   cases (knownD t d.name).isSome with
   | true => simp
   | false => exact Q4D _ _ _ _ _ _ _ _ _ _
 | false =>
   simp only [cond_false]
   cases decide (d.kind = 4) with
   | true => exact Q4D _ _ _ _ _ _ _ _ _ _
   | false => simp
theorem Qb0 (t : List Place) (d : Dec) (hp : d.params < 2^28) (hl : ∀ c ∈ d.cons, WideTy c.arg) (h : ∀ p ∈ t, WideTy p.ty) : ∀ p ∈ (addD t d).1, WideTy p.ty := by
 unfold addD
 cases decide (d.kind = 3) with
 | true =>
   simp only [cond_true]
   cases (knownD t d.name).isSome with
   | true => simp
   | false => exact Q3R _ _ _ (Q3T d hp) _ _ _ _ _ _ _ hl h
 | false =>
   simp only [cond_false]
   cases decide (d.kind = 4) with
   | true => exact Q3R _ _ _ (Q3T d hp) _ _ _ _ _ _ _ hl h
   | false => exact h
def DecFit (d : Dec) : Prop := d.params < 2^28 ∧ ∀ c ∈ d.cons, WideTy c.arg
theorem Q5H : ∀ p ∈ startD, WideTy p.ty := by
 intro p hp
 simp only [startD, List.mem_cons, List.not_mem_nil, or_false] at hp
 rcases hp with rfl | rfl | rfl | rfl | rfl | rfl <;> exact Q2y (by simp) (by simp)
def consOf : List Dec → Nat
 | [] => 0
 | d :: l => d.cons.length + consOf l
theorem Q7K : ∀ l : List Dec, consOf l ≤ Dec.sizes l
 | [] => Nat.zero_le _
 | .mk k a nm p l lb c cb f fb :: r => by
   have h1 := Q7K r
   have h2 := Con.len_sizes l
   simp only [consOf, Dec.sizes, Dec.size, Dec.cons]; omega
theorem Q4E (P : List Dec) (hP : P.length < 2^40) (y : Slot) (hy : y.list? = some (P.map Dec.enc)) (s0 : St) : ∀ (suf pre : List Dec) (t : List Place) (x : Slot) (v : AV) (s : St) (i : Nat), pre ++ suf = P → i = pre.length → (∀ d ∈ suf, DecFit d) → t.length + consOf suf < 2^26 → (∀ p ∈ t, WideTy p.ty) → x.av = some v → (Slot.val v).list? = some (t.map Place.enc) → Grew s0 s →
  RetT (Q1r zb x y (.val (.int .i64 P.length)) (.val (.int .i64 i)) s) s0 (ofD suf t)
 | [], pre, t, x, v, s, i, hp, hi, hF, hl, hw, hx, hv, g => by
   subst hi
   refine ⟨s, v, ?_, hv, g⟩
   rw [Q4b]; simp only [go_sem, Nat.reduceAdd, Nat.reduceLeDiff, Qd (by simpa using hp), zb, Q4y hx]
   rfl
 | d :: suf, pre, t, x, v, s, i, hp, hi, hF, hl, hw, hx, hv, g => by
   subst hi
   obtain ⟨f1, f2, f3⟩ := Q8 hy hp (by omega) (Dec.cells_len d) (by decide)
   obtain ⟨hf1, hf2⟩ := hF d List.mem_cons_self
   simp only [consOf] at hl
   obtain ⟨s1, w, e1, hw1, g1⟩ := Q4a t d (by omega) hw hf1 (by omega) hf2 v hv s
   have hlen := QbW t d
   have ih := Q4E P hP y hy s0 suf (pre ++ [d]) (addD t d).1 (.val w) w s1 (pre.length + 1) (by simpa using hp) (by simp) (fun q hq => hF q (List.mem_cons_of_mem _ hq)) (by omega) (Qb0 t d hf1 hf2 hw) rfl hw1 (g.trans g1)
   rw [Q4b]
   simp only [Dec.enc, Dec.cells_eq] at e1
   simp only [ofD]
   by_cases hz : (addD t d).2.kind = 0
   ·rw [if_neg (by simpa using hz)]
    simp only [go_sem, Nat.reduceAdd, Nat.reduceLeDiff, f1, f2, f3, Dec.cells_eq, Zt hx, e1, TBad.enc, TBad.cells, List.map_cons, List.map_nil, hz, decide_true, Bool.not_true]
    exact ih
   ·rw [if_pos (by simpa using hz)]
    refine ⟨s1, .nils, ?_, rfl, g.trans g1⟩
    simp only [go_sem, Nat.reduceAdd, Nat.reduceLeDiff, f1, f2, f3, Dec.cells_eq, Zt hx, e1, TBad.enc, TBad.cells, List.map_cons, List.map_nil, decide_eq_false hz, Bool.not_false, zb]
theorem Q8J (P : List Dec) (nl : Bool) (hF : ∀ d ∈ P, DecFit d) (hs : Dec.sizes P < 2^25) (s : St) : RetT (cw (.f Q2Z) [encS nl (P.map Dec.enc)] s) s (ofD P startD) := by
 obtain ⟨s1, e1, g1⟩ := Q0w s
 have hl := Dec.len_sizes P
 have hc := Q7K P
 have e2 := Q4E P (by omega) (.val (encS nl (P.map Dec.enc))) (Qk _ _) s P [] startD (.full (startD.map Place.enc)) (.sl (startD.map Place.enc)) s1 0 rfl rfl hF (by simp only [startD, List.length_cons, List.length_nil]; omega) Q5H rfl rfl g1
 rw [show ((0 : Nat) : Int) = 0 from rfl] at e2
 rw [Qaw]
 simp only [go_sem, e1, List.length_map, zb] at e2 ⊢
 exact e2
end Go.Proofs.Ytoahliipbclneaa
namespace Go.Proofs.Ytoahliipbclneaa
open Go Go.Am
set_option linter.unusedVariables false
def ownP (p : Place) : Place := { p with ty := ownTy p.ty }
def dataR (data : Str) (t : List Place) : List Place := (t.filter fun p => decide (p.data = data)).map ownP
def givenR (nm : Str) : Bool := decide (nm = sInt) || decide (nm = sBool) || decide (nm = sUnit) || decide (nm = sExn) || decide (nm = sRef) || decide (nm = sArrow) || decide (nm = sStar)
def dtR (t : List Place) (nm : Str) : Int × Bool := bif givenR nm then (0, false) else match dataR nm t with
 | [] => (0, false)
 | p :: _ => (p.vars, true)
def wrongR1 (t : List Place) (d : Dec) (u : Ty) : Int × Bool := bif decide (d.kind = 3) && decide (u.name = d.name) then (d.params, true) else dtR t u.name
def wrongR (t : List Place) (d : Dec) (u : Ty) : Int × Str :=
 bif decide (u.kind = 1) then (bif !decide (d.kind = 3) || decide (u.n ≥ d.params) then (16, []) else (0, []))
 else bif givenR u.name then (0, []) else bif !(wrongR1 t d u).2 then (8, u.name) else bif !decide ((u.args.length : Int) = (wrongR1 t d u).1) then (19, u.name) else (0, [])
def firstW (t : List Place) (d : Dec) : List Ty → Int × Str
 | [] => (0, [])
 | u :: l => if (wrongR t d u).1 ≠ 0 then wrongR t d u else firstW t d l
def resR (d : Dec) : Ty := bif decide (d.kind = 4) then ofTy sExn [] else .mk 2 0 d.name (bif decide (d.kind = 3) then varsTy d.params.toNat else []) true
def placeR (t : List Place) (d : Dec) (i : Nat) (c : Con) : Place :=
 ⟨c.name, bif decide (d.kind = 4) then sExn else d.name, bif decide (d.kind = 4) then (exns t : Nat) else (i : Int), bif decide (d.kind = 4) then 0 else (d.cons.length : Int), c.has, bif decide (d.kind = 4) then 0 else d.params, bif c.has then fnTy c.arg (resR d) else resR d⟩
end Go.Proofs.Ytoahliipbclneaa
namespace Go.Am
open Go
def Within (l : List TNode) (D : Int) (S : Nat) : Prop := ∀ n ∈ l, (∀ e, n = .exp e → (∃ a b, l = a ++ (nodesExp e ++ b)) ∧ deepExp e ≤ D ∧ e.size ≤ S) ∧ (∀ p, n = .pat p → (∃ a b, l = a ++ (nodesPat p ++ b)) ∧ deepPat p ≤ D ∧ p.size ≤ S)
theorem Within.nil (D : Int) (S : Nat) : Within [] D S := fun n hn => by cases hn
theorem Within.mono {l : List TNode} {D E : Int} {S T : Nat} (h : Within l D S) (hd : D ≤ E) (hs : S ≤ T) : Within l E T := fun n hn => ⟨fun e he => by
 obtain ⟨h1, h2, h3⟩ := (h n hn).1 e he
 exact ⟨h1, by omega, by omega⟩, fun p hp => by
 obtain ⟨h1, h2, h3⟩ := (h n hn).2 p hp
 exact ⟨h1, by omega, by omega⟩⟩
theorem Within.app {l m : List TNode} {D : Int} {S : Nat} (h : Within l D S) (g : Within m D S) : Within (l ++ m) D S := fun n hn => by
 rcases List.mem_append.1 hn with hn | hn
 ·refine ⟨fun e he => ?_, fun p hp => ?_⟩
  ·obtain ⟨⟨a, b, hab⟩, hd⟩ := (h n hn).1 e he
   exact ⟨⟨a, b ++ m, by rw [hab]; simp⟩, hd⟩
  ·obtain ⟨⟨a, b, hab⟩, hd⟩ := (h n hn).2 p hp
   exact ⟨⟨a, b ++ m, by rw [hab]; simp⟩, hd⟩
 ·refine ⟨fun e he => ?_, fun p hp => ?_⟩
  ·obtain ⟨⟨a, b, hab⟩, hd⟩ := (g n hn).1 e he
   exact ⟨⟨l ++ a, b, by rw [hab]; simp⟩, hd⟩
  ·obtain ⟨⟨a, b, hab⟩, hd⟩ := (g n hn).2 p hp
   exact ⟨⟨l ++ a, b, by rw [hab]; simp⟩, hd⟩
theorem Within.cons {l : List TNode} {D : Int} {S : Nat} {n : TNode} (h : Within l D S) (h1 : ∀ e, n = .exp e → n :: l = nodesExp e ∧ deepExp e ≤ D ∧ e.size ≤ S) (h2 : ∀ p, n = .pat p → n :: l = nodesPat p ∧ deepPat p ≤ D ∧ p.size ≤ S) : Within (n :: l) D S := fun m hm => by
 rcases List.mem_cons.1 hm with rfl | hm
 ·exact ⟨fun e he => ⟨⟨[], [], by rw [(h1 e he).1]; simp⟩, (h1 e he).2⟩, fun p hp => ⟨⟨[], [], by rw [(h2 p hp).1]; simp⟩, (h2 p hp).2⟩⟩
 ·refine ⟨fun e he => ?_, fun p hp => ?_⟩
  ·obtain ⟨⟨a, b, hab⟩, hd⟩ := (h m hm).1 e he
   exact ⟨⟨n :: a, b, by rw [hab]; simp⟩, hd⟩
  ·obtain ⟨⟨a, b, hab⟩, hd⟩ := (h m hm).2 p hp
   exact ⟨⟨n :: a, b, by rw [hab]; simp⟩, hd⟩
mutual
theorem Q8c (a : Int) (D : Int) (S : Nat) : ∀ t : Ty, Within (nodesTy a t) D S
 | .mk k n s l b => by
   rw [nodesTy]
   exact (Q7d a D S l).cons (fun e he => by cases he) (fun p hp => by cases hp)
theorem Q7d (a : Int) (D : Int) (S : Nat) : ∀ l : List Ty, Within (nodesTys a l) D S
 | [] => by rw [nodesTys]; exact .nil D S
 | t :: l => by rw [nodesTys]; exact (Q8c a D S t).app (Q7d a D S l)
end
mutual
theorem Q46 : ∀ t : Pat, Within (nodesPat t) (deepPat t) t.size
 | .mk k a s n l b => by
   have h := Q5T l 0
   rw [nodesPat]
   refine (h.mono (by simp only [deepPat]; omega) (by simp only [Pat.size]; omega)).cons (fun e he => by cases he) (fun p hp => by cases hp; exact ⟨by rw [nodesPat], Int.le_refl _, Nat.le_refl _⟩)
theorem Q5T : ∀ (l : List Pat) (n : Int), Within (nodesPats l) (deepPats l n) (Pat.sizes l)
 | [], n => by rw [nodesPats]; exact .nil _ _
 | t :: l, n => by
   rw [nodesPats, deepPats, Pat.sizes]
   have h1 := (Q3l l (maxI n (deepPat t))).1
   have h2 := Q0L n (deepPat t)
   exact ((Q46 t).mono (by omega) (by omega)).app ((Q5T l _).mono (Int.le_refl _) (by omega))
end
theorem QaU (c : Con) (D : Int) (S : Nat) : Within (nodesCon c) D S := by
 unfold nodesCon
 refine Within.cons ?_ (fun e he => by cases he) (fun p hp => by cases hp)
 cases c.has
 ·exact .nil D S
 ·exact Q8c _ D S _
theorem Q5P (D : Int) (S : Nat) : ∀ l : List Con, Within (nodesCons l) D S
 | [] => by rw [nodesCons]; exact .nil D S
 | t :: l => by rw [nodesCons]; exact (QaU t D S).app (Q5P D S l)
mutual
theorem Q45 : ∀ t : Exp, Within (nodesExp t) (deepExp t) t.size
 | .mk k a s n l lb c cb d db => by
   have h1 := Q5Q true d 0
   have h2 := Q5R l (maxI (deepDecs d 0) (deepCases c 0))
   have h3 := Q2X c 0
   have g1 := (Q1U l (maxI (deepDecs d 0) (deepCases c 0))).1
   have g2 := Q0L (deepDecs d 0) (deepCases c 0)
   rw [nodesExp]
   refine Within.cons ((h1.mono ?_ ?_).app ((h2.mono ?_ ?_).app (h3.mono ?_ ?_))) (fun e he => by cases he; exact ⟨by rw [nodesExp], Int.le_refl _, Nat.le_refl _⟩) (fun p hp => by cases hp)
   all_goals simp only [deepExp, Exp.size]; omega
theorem Q5R : ∀ (l : List Exp) (n : Int), Within (nodesExps l) (deepExps l n) (Exp.sizes l)
 | [], n => by rw [nodesExps]; exact .nil _ _
 | t :: l, n => by
   rw [nodesExps, deepExps, Exp.sizes]
   have h1 := (Q1U l (maxI n (deepExp t))).1
   have h2 := Q0L n (deepExp t)
   exact ((Q45 t).mono (by omega) (by omega)).app ((Q5R l _).mono (Int.le_refl _) (by omega))
theorem Q9Y : ∀ c : Case, Within (nodesCase c) (deepCase c) c.size
 | .mk p e => by
   have h1 := Q46 p
   have h2 := Q45 e
   have h3 := Q0L 0 (deepPat p)
   have h4 := Q0L (maxI 0 (deepPat p)) (deepExp e)
   rw [nodesCase, deepCase, Case.size]
   exact (h1.mono (by omega) (by omega)).app (h2.mono (by omega) (by omega))
theorem Q2X : ∀ (l : List Case) (n : Int), Within (nodesCases l) (deepCases l n) (Case.sizes l)
 | [], n => by rw [nodesCases]; exact .nil _ _
 | .mk p e :: l, n => by
   have h1 := Q46 p
   have h2 := Q45 e
   have h3 := Q0L n (deepPat p)
   have h4 := Q0L (maxI n (deepPat p)) (deepExp e)
   have h5 := (Q01 l (maxI (maxI n (deepPat p)) (deepExp e))).1
   have h6 := Q2X l (maxI (maxI n (deepPat p)) (deepExp e))
   rw [nodesCases, nodesCase, deepCases, Case.sizes, Case.size]
   exact ((h1.mono (by omega) (by omega)).app (h2.mono (by omega) (by omega))).app (h6.mono (Int.le_refl _) (by omega))
theorem Q5Q (i : Bool) : ∀ (l : List Dec) (n : Int), Within (nodesDecs i l) (deepDecs l n) (Dec.sizes l)
 | [], n => by rw [nodesDecs]; exact .nil _ _
 | .mk k a s p l lb c cb f fb :: r, n => by
   have h1 := Q2X c 0
   have h2 := Q5S f (deepCases c 0)
   have h3 := fun D S => Q5P D S l
   have h4 := Q5Q i r (maxI n (deepCons l (deepFuns f (deepCases c 0)) + 1))
   have g1 := (Q0W f (deepCases c 0)).1
   have g2 := (Q1S l (deepFuns f (deepCases c 0))).1
   have g3 := (Q1T r (maxI n (deepCons l (deepFuns f (deepCases c 0)) + 1))).1
   have g4 := Q0L n (deepCons l (deepFuns f (deepCases c 0)) + 1)
   rw [nodesDecs, nodesDec, deepDecs, Dec.sizes, Dec.size]
   exact (Within.cons ((h1.mono (by omega) (by omega)).app ((h2.mono (by omega) (by omega)).app (h3 _ _))) (fun e he => by cases he) (fun p hp => by cases hp)).app (h4.mono (Int.le_refl _) (by omega))
theorem Q5S : ∀ (l : List Fun) (n : Int), Within (nodesFuns l) (deepFuns l n) (Fun.sizes l)
 | [], n => by rw [nodesFuns]; exact .nil _ _
 | .mk s a c :: l, n => by
   have h1 := Q9Y c
   have h2 := Q5S l (maxI n (deepCase c))
   have g1 := (Q0W l (maxI n (deepCase c))).1
   have g2 := Q0L n (deepCase c)
   rw [nodesFuns, nodesFun, deepFuns, Fun.sizes, Fun.size]
   exact (Within.cons (h1.mono (by omega) (by omega)) (fun e he => by cases he) (fun p hp => by cases hp)).app (h2.mono (Int.le_refl _) (by omega))
end
theorem Q4M : ∀ l : List TNode, firstBad l = .zero → ∀ n ∈ l, n.bad.kind = 0
 | [], _, n, hn => by cases hn
 | u :: l, h, n, hn => by
   rw [firstBad] at h
   by_cases hu : u.bad.kind = 0
   ·rw [decide_eq_true hu, cond_true] at h
    rcases List.mem_cons.1 hn with rfl | hn
    ·exact hu
    ·exact Q4M l h n hn
   ·rw [decide_eq_false hu, cond_false] at h
    rw [h] at hu
    exact absurd rfl hu
end Go.Am
namespace Go.Am
open Go
set_option linter.unusedVariables false
theorem Q9P {l : List TNode} {D : Int} (h : rightN l D = .zero) : firstBad l = .zero := by
 unfold rightN at h
 cases h1 : decide (countN l > 8192) with
 | true => rw [h1, cond_true] at h; cases h
 | false =>
   rw [h1, cond_false] at h
   cases h2 : decide (D > 100) with
   | true => rw [h2, cond_true] at h; cases h
   | false => rw [h2, cond_false] at h; exact h
theorem wrong0 {n : TNode} (h : n.bad.kind = 0) : n.wrong.1 = 0 := by
 unfold TNode.bad mkBad at h
 by_cases e : n.wrong.1 = 0
 ·exact e
 ·rw [decide_eq_false e, cond_false] at h; exact h
theorem Q9Q {l : List TNode} {D : Int} (h : rightN l D = .zero) : ∀ n ∈ l, n.wrong.1 = 0 := fun n hn => wrong0 (Q4M l (Q9P h) n hn)
theorem Q4d : ∀ l : List TNode, (firstBad l).kind = 0 → firstBad l = .zero
 | [], _ => rfl
 | n :: l, h => by
   rw [firstBad] at h ⊢
   by_cases e : n.bad.kind = 0
   ·rw [decide_eq_true e, cond_true] at h ⊢; exact Q4d l h
   ·rw [decide_eq_false e, cond_false] at h; exact absurd h e
theorem QaJ {l : List TNode} {D : Int} : (rightN l D).kind = 0 ↔ rightN l D = .zero := by
 constructor
 ·unfold rightN
  cases decide (countN l > 8192) with
  | true => intro h; cases h
  | false =>
    cases decide (D > 100) with
    | true => intro h; cases h
    | false => exact Q4d l
 ·intro h; rw [h]; rfl
structure DecIs (k : Int) (nm : Str) (p nl nc nf : Int) (inn : Bool) : Prop where
 kind : k = 1 ∨ k = 2 ∨ k = 3 ∨ k = 4
 val : k = 1 → nc = 1 ∧ ¬ nf > 0 ∧ ¬ nl > 0
 fn : k = 2 → ¬ nc > 0 ∧ ¬ nl > 0 ∧ nf > 0
 data : k = 3 → ¬ nc > 0 ∧ ¬ nf > 0 ∧ 0 ≤ p ∧ p ≤ 8 ∧ lowB nm = true ∧ nl > 0 ∧ nl ≤ 64
 exn : k = 4 → ¬ nc > 0 ∧ ¬ nf > 0 ∧ nl = 1
 bare : k ≠ 3 → p = 0 ∧ nm = []
 inn : inn = true → k = 1 ∨ k = 2
theorem Qdi {k : Int} {nm : Str} {p nl nc nf : Int} {inn : Bool} (h : wrongDecC k nm p nl nc nf inn = 0) : DecIs k nm p nl nc nf inn := by
 unfold wrongDecC at h
 by_cases h1 : k = 1
 ·subst h1
  simp only [decide_true, cond_true, Int.reduceEq, decide_false, cond_false] at h
  grind [DecIs]
 ·by_cases h2 : k = 2
  ·subst h2
   simp only [decide_true, cond_true, Int.reduceEq, decide_false, cond_false] at h
   grind [DecIs]
  ·by_cases h3 : k = 3
   ·subst h3
    simp only [decide_true, cond_true, Int.reduceEq, decide_false, cond_false] at h
    grind [DecIs]
   ·by_cases h4 : k = 4
    ·subst h4
     simp only [decide_true, cond_true, Int.reduceEq, decide_false, cond_false] at h
     grind [DecIs]
    ·simp only [decide_eq_false h1, decide_eq_false h2, decide_eq_false h3, decide_eq_false h4, cond_false, Bool.not_false, Bool.true_or, cond_true] at h
     cases h
theorem Qf1 {d : Dec} {inn : Bool} (h : wrongDecB d inn = 0) : DecIs d.kind d.name d.params d.cons.length d.case.length d.funs.length inn := Qdi h
end Go.Am
namespace Go.Proofs.Ytoahliipbclneaa
open Go Go.Am
set_option linter.unusedVariables false
def TabEq (t u : List Place) : Prop := t.map ownP = u.map ownP
theorem QbA : ∀ t : Ty, ownTy (ownTy t) = ownTy t ∧ True := fun t => ⟨own1 t, trivial⟩
where
 own1 : ∀ t : Ty, ownTy (ownTy t) = ownTy t
 | .mk k n s l b => by simp only [ownTy, ownTys_own l]
 ownTys_own : ∀ l : List Ty, ownTys (ownTys l) = ownTys l
 | [] => rfl
 | t :: l => by simp only [ownTys, own1 t, ownTys_own l]
theorem Qcv (p : Place) : ownP (ownP p) = ownP p := by simp only [ownP, (QbA p.ty).1]
theorem TabEq.own (t : List Place) : TabEq t (t.map ownP) := by
 unfold TabEq
 rw [List.map_map]
 exact List.map_congr_left fun p _ => (Qcv p).symm
theorem TabEq.symm {t u : List Place} (h : TabEq t u) : TabEq u t := Eq.symm h
theorem TabEq.trans {t u w : List Place} (h : TabEq t u) (k : TabEq u w) : TabEq t w := Eq.trans h k
theorem TabEq.app {t u a b : List Place} (h : TabEq t u) (k : TabEq a b) : TabEq (t ++ a) (u ++ b) := by
 unfold TabEq at *
 rw [List.map_append, List.map_append, h, k]
theorem TabEq.map {α : Type} {t u : List Place} (h : TabEq t u) (f : Place → α) (hf : ∀ p, f (ownP p) = f p) : t.map f = u.map f := by
 have h1 : ∀ l : List Place, l.map f = (l.map ownP).map f := fun l => by
  rw [List.map_map]; exact List.map_congr_left fun p _ => (hf p).symm
 rw [h1 t, h1 u, h]
theorem TabEq.len {t u : List Place} (h : TabEq t u) : t.length = u.length := by
 have := congrArg List.length h
 simpa using this
theorem Q6H (t : List Place) (d : Dec) : ∀ (a b : List Ty), firstW t d (a ++ b) = if (firstW t d a).1 ≠ 0 then firstW t d a else firstW t d b
 | [], b => by simp [firstW]
 | u :: a, b => by
   simp only [List.cons_append, firstW, Q6H t d a b]
   by_cases h : (wrongR t d u).1 = 0
   ·simp [h]
   ·simp [h]
def TyIs (t : Ty) : Prop := ∀ u ∈ preTy t, u.kind = 1 → u.args = [] ∧ 0 ≤ u.n
theorem Q6V : ∀ {l : List Ty} {w u : Ty}, w ∈ l → u ∈ preTy w → u ∈ preTys l
 | x :: l, w, u, h, hu => by
   simp only [preTys, List.mem_append]
   rcases List.mem_cons.1 h with rfl | h
   ·exact .inl hu
   ·exact .inr (Q6V h hu)
structure WH (u : List Place) (d : Dec) (g : Str → Option Int) (vars : Int) : Prop where
 hk : ∀ v : Ty, v.kind = 1 → 0 ≤ v.n → (wrongR u d v = if v.n ≥ vars then (16, []) else (0, []))
 hg : ∀ v : Ty, v.kind ≠ 1 → wrongR u d v = match g v.name with | none => (8, v.name) | some m => if m ≥ 0 ∧ m ≠ (v.args.length : Int) then (19, v.name) else (0, [])
mutual
theorem QcQ {u : List Place} {d : Dec} {g : Str → Option Int} {vars : Int} (H : WH u d g vars) : ∀ v : Ty, TyIs v → wrongD g vars v = firstW u d (preTy v)
 | .mk k n nm l b, hT => by
   have h0 := hT (.mk k n nm l b) (by simp only [preTy]; exact List.mem_cons_self)
   simp only [Ty.kind, Ty.args, Ty.n] at h0
   simp only [preTy, wrongD]
   by_cases h1 : k = 1
   ·obtain ⟨rfl, hn⟩ := h0 h1
    subst h1
    have := H.hk (.mk 1 n nm [] b) rfl hn
    simp only [preTys, firstW, this, Ty.n, if_true]
    by_cases hv : n ≥ vars
    ·simp [hv]
    ·simp [hv]
   ·have := H.hg (.mk k n nm l b) h1
    have hl := Q8d H l (fun w hw u hu => hT u (by simp only [preTy]; exact List.mem_cons_of_mem _ (Q6V hw hu)))
    simp only [Ty.name, Ty.args] at this
    simp only [firstW, this, h1, if_false]
    cases g nm with
    | none => simp
    | some m =>
      simp only
      by_cases hm : m ≥ 0 ∧ m ≠ (l.length : Int)
      ·simp [hm]
      ·simp only [hm, if_false, ne_eq, not_true_eq_false]
       exact hl
theorem Q8d {u : List Place} {d : Dec} {g : Str → Option Int} {vars : Int} (H : WH u d g vars) : ∀ l : List Ty, (∀ v ∈ l, TyIs v) → wrongsD g vars l = firstW u d (preTys l)
 | [], _ => by simp only [wrongsD, preTys, firstW]
 | v :: l, hT => by
   simp only [wrongsD, preTys, Q6H, QcQ H v (hT v List.mem_cons_self), Q8d H l fun w hw => hT w (List.mem_cons_of_mem _ hw)]
end
structure DecOK (d : Dec) : Prop where
 kind : d.kind = 1 ∨ d.kind = 2 ∨ d.kind = 3 ∨ d.kind = 4
 data : d.kind = 3 → 0 ≤ d.params
 exn : d.kind = 4 → d.cons.length = 1
 arg : ∀ c ∈ d.cons, c.has = true → TyIs c.arg
end Go.Proofs.Ytoahliipbclneaa
namespace Go.Proofs.Ytoahliipbclneaa
open Go Go.Am
set_option linter.unusedVariables false
def conD (p : Place) : Con := ⟨p.name, 0, p.has, bif p.has && decide ((p.ty.args.length : Int) = 2) then p.ty.args.headD .zero else .zero⟩
def exnDec (c : Con) : Dec := .mk 4 0 [] 0 [c] false [] true [] true
def dataDec (nm : Str) (p : Int) (cs : List Con) : Dec := .mk 3 0 nm p cs false [] true [] true
def mkD (x : Place) : Dec := bif decide (x.data = sExn) then exnDec (conD x) else dataDec x.data x.vars [conD x]
def addCon (d : Dec) (c : Con) : Dec := .mk d.kind d.at_ d.name d.params (d.cons ++ [c]) d.nb d.case d.cb d.funs d.fb
def joins (x : Place) (d : Dec) : Bool := !decide (x.data = sExn) && decide (d.kind = 3) && decide (d.name = x.data)
def stepD (p : List Dec) (x : Place) : List Dec := match p.getLast? with
 | some d => bif joins x d then p.dropLast ++ [addCon d (conD x)] else p ++ [mkD x]
 | none => p ++ [mkD x]
def decsD (t : List Place) : List Dec := (t.drop 6).foldl stepD []
theorem Q53 (x : Place) : stepD [] x = [mkD x] := rfl
theorem Q3f (p : List Dec) (d : Dec) (x : Place) : stepD (p ++ [d]) x = bif joins x d then p ++ [addCon d (conD x)] else p ++ [d] ++ [mkD x] := by
 simp only [stepD, List.getLast?_append, List.getLast?_singleton, Option.some_or, List.dropLast_concat]
def eqPl (p q : Place) : Bool := decide (p.name = q.name) && decide (p.data = q.data) && decide (p.tag = q.tag) && decide (p.of_ = q.of_) && (p.has == q.has) && decide (p.vars = q.vars) && eqTy p.ty q.ty
def eqTab : List Place → List Place → Bool
 | [], [] => true
 | p :: t, q :: u => eqPl p q && eqTab t u
 | _, _ => false
def okD (d : Dec) : Bool := decide ((rightN (nodesDecs false [d]) (deepDecs [d] 0)).kind = 0)
def rightTD (t : List Place) : Bool := !decide ((t.length : Int) < 6) && ((decsD t).all okD && (decide ((ofD (decsD t) startD).2.kind = 0) && eqTab t (ofD (decsD t) startD).1))
theorem Q4J : ∀ {t u : List Place}, eqTab t u = true → t.length = u.length
 | [], [], _ => rfl
 | p :: t, q :: u, h => by
   simp only [eqTab, Bool.and_eq_true] at h
   simp only [List.length_cons, Q4J h.2]
 | [], q :: u, h => by cases h
 | p :: t, [], h => by cases h
def formD (d : Dec) : Prop := d.nb = false ∧ d.case = [] ∧ d.cb = true ∧ d.funs = [] ∧ d.fb = true
theorem Qa7 (x : Place) : formD (mkD x) := by
 unfold mkD
 cases decide (x.data = sExn) <;> exact ⟨rfl, rfl, rfl, rfl, rfl⟩
theorem Q8R {d : Dec} (h : formD d) (c : Con) : formD (addCon d c) := h
def PlaceOK (p : Place) : Prop := p.name.length < 2^40 ∧ p.data.length < 2^40 ∧ NamesTy p.ty
def Place.sizes : List Place → Nat
 | [] => 0
 | p :: t => p.ty.size + 1 + Place.sizes t
theorem Place.len_sizes : ∀ t : List Place, t.length ≤ Place.sizes t
 | [] => Nat.le_refl _
 | p :: t => by have := Place.len_sizes t; simp only [Place.sizes, List.length_cons]; omega
theorem Place.mem_sizes : ∀ {t : List Place} {p : Place}, p ∈ t → p.ty.size + 1 ≤ Place.sizes t
 | x :: l, t, h => by
   simp only [Place.sizes]
   rcases List.mem_cons.1 h with rfl | h
   ·omega
   ·have := Place.mem_sizes h; omega
theorem Place.sizes_app (a b : List Place) : Place.sizes (a ++ b) = Place.sizes a + Place.sizes b := by
 induction a with
 | nil => simp [Place.sizes]
 | cons p a ih => simp only [List.cons_append, Place.sizes, ih]; omega
theorem Place.sizes_drop (t : List Place) (n : Nat) : Place.sizes (t.drop n) ≤ Place.sizes t := by
 have := Place.sizes_app (t.take n) (t.drop n)
 rw [List.take_append_drop] at this; omega
def DGood (d : Dec) : Prop := formD d ∧ d.name.length < 2^40 ∧ ∀ c ∈ d.cons, c.name.length < 2^40 ∧ NamesTy c.arg
theorem QaG : NamesTy .zero := by
 intro n hn
 simp only [Ty.zero, nodesTy, nodesTys, List.mem_cons, List.not_mem_nil, or_false] at hn
 subst hn
 simp [TNode.ok, Ty.name]
theorem Q8H (p : Place) : (conD p).arg = .zero ∨ (conD p).arg ∈ p.ty.args := by
 unfold conD
 cases p.has with
 | false => exact .inl rfl
 | true =>
   by_cases h : (p.ty.args.length : Int) = 2
   ·simp only [h, decide_true, Bool.and_self, cond_true]
    cases ha : p.ty.args with
    | nil => rw [ha] at h; simp at h
    | cons a l => exact .inr (by simp)
   ·left; simp only [h, decide_false, Bool.and_false, cond_false]
theorem QbZ {p : Place} {c : Con} (h : c.arg = .zero ∨ c.arg ∈ p.ty.args) : c.size ≤ p.ty.size + 1 := by
 have h1 : 1 ≤ p.ty.size := by cases p.ty; simp only [Ty.size]; omega
 simp only [Con.size]
 rcases h with h | h
 ·rw [h]; simp only [Ty.zero, Ty.size, Ty.sizes]; omega
 ·have := Ty.mem_sizes h
  have : p.ty.size = Ty.sizes p.ty.args + 1 := by cases p.ty; simp only [Ty.size, Ty.args]
  omega
theorem Q7I (p : Place) : (conD p).size ≤ p.ty.size + 1 := QbZ (Q8H p)
theorem Qb2 {p : Place} {c : Con} (h : NamesTy p.ty) (e : c.arg = .zero ∨ c.arg ∈ p.ty.args) : NamesTy c.arg := by
 rcases e with e | e
 ·rw [e]; exact QaG
 ·generalize c.arg = u at e
  cases ht : p.ty with
  | mk k n s l b => rw [ht] at e h; exact h.arg e
theorem Q6q {p : Place} (h : NamesTy p.ty) : NamesTy (conD p).arg := Qb2 h (Q8H p)
theorem Qab {p : Place} (h : PlaceOK p) : DGood (mkD p) := by
 obtain ⟨h1, h2, h3⟩ := h
 refine ⟨Qa7 p, ?_, fun c hc => ?_⟩
 ·unfold mkD; cases decide (p.data = sExn)
  ·exact h2
  ·show ([] : Str).length < _; decide
 ·have : c = conD p := by
   revert hc; unfold mkD; cases decide (p.data = sExn) <;> exact fun hc => by simpa [exnDec, dataDec, Dec.cons] using hc
  subst this
  exact ⟨h1, Q6q h3⟩
theorem Qch {d : Dec} {p : Place} (hd : DGood d) (h : PlaceOK p) : DGood (addCon d (conD p)) := by
 refine ⟨Q8R hd.1 _, hd.2.1, fun c hc => ?_⟩
 simp only [addCon, Dec.cons, List.mem_append, List.mem_singleton] at hc
 rcases hc with hc | rfl
 ·exact hd.2.2 c hc
 ·exact ⟨h.1, Q6q h.2.2⟩
theorem Q7S : ∀ (t : List Place) (p : List Dec), (∀ x ∈ t, PlaceOK x) → (∀ d ∈ p, DGood d) → ∀ d ∈ t.foldl stepD p, DGood d
 | [], p, _, hp => hp
 | x :: t, p, ht, hp => by
   rw [List.foldl_cons]
   refine Q7S t _ (fun y hy => ht y (List.mem_cons_of_mem _ hy)) fun d hd => ?_
   have hx := ht x List.mem_cons_self
   rcases List.eq_nil_or_concat p with rfl | ⟨q, e, rfl⟩
   ·simp only [Q53, List.mem_singleton] at hd; subst hd; exact Qab hx
   ·rw [List.concat_eq_append] at *
    rw [Q3f] at hd
    cases hj : joins x e with
    | true =>
      rw [hj, cond_true, List.mem_append, List.mem_singleton] at hd
      rcases hd with hd | rfl
      ·exact hp d (List.mem_append_left _ hd)
      ·exact Qch (hp e (by simp)) hx
    | false =>
      rw [hj, cond_false, List.mem_append, List.mem_singleton] at hd
      rcases hd with hd | rfl
      ·exact hp d hd
      ·exact Qab hx
theorem Q7n (a b : List Con) : Con.sizes (a ++ b) = Con.sizes a + Con.sizes b := by
 induction a with
 | nil => simp [Con.sizes]
 | cons p a ih => simp only [List.cons_append, Con.sizes, ih]; omega
theorem Q49 (a b : List Dec) : Dec.sizes (a ++ b) = Dec.sizes a + Dec.sizes b := by
 induction a with
 | nil => simp [Dec.sizes]
 | cons p a ih => simp only [List.cons_append, Dec.sizes, ih]; omega
theorem Q9z (d : Dec) (c : Con) : (addCon d c).size = d.size + c.size := by
 cases d
 simp only [addCon, Dec.size, Dec.cons, Dec.case, Dec.funs, Q7n, Con.sizes]; omega
theorem Qct (p : Place) : (mkD p).size ≤ p.ty.size + 2 := by
 have := Q7I p
 unfold mkD
 cases decide (p.data = sExn) <;> simp only [cond_true, cond_false, exnDec, dataDec, Dec.size, Con.sizes, Case.sizes, Fun.sizes] <;> omega
theorem QaN (p : List Dec) (x : Place) : Dec.sizes (stepD p x) ≤ Dec.sizes p + (x.ty.size + 2) := by
 have h1 := Qct x
 have h2 := Q7I x
 rcases List.eq_nil_or_concat p with rfl | ⟨q, e, rfl⟩
 ·simp only [Q53, Dec.sizes]; omega
 ·rw [List.concat_eq_append, Q3f]
  cases joins x e with
  | true => simp only [cond_true, Q49, Dec.sizes, Q9z]; omega
  | false => simp only [cond_false, Q49, Dec.sizes]; omega
theorem Q7T (f : List Dec → Place → List Dec) (hf : ∀ p x, Dec.sizes (f p x) ≤ Dec.sizes p + (x.ty.size + 2)) : ∀ (t : List Place) (p : List Dec), 2 * Dec.sizes (t.foldl f p) ≤ 2 * Dec.sizes p + 3 * Place.sizes t
 | [], p => by simp [Place.sizes]
 | x :: t, p => by
   have h1 := Q7T f hf t (f p x)
   have h2 := hf p x
   have h3 : 1 ≤ x.ty.size := by cases x.ty; simp only [Ty.size]; omega
   rw [List.foldl_cons]
   simp only [Place.sizes]; omega
theorem Qay (t : List Place) : 2 * Dec.sizes (decsD t) ≤ 3 * Place.sizes t := by
 have h1 := Q7T _ QaN (t.drop 6) []
 have h2 := Place.sizes_drop t 6
 simp only [Dec.sizes] at h1
 unfold decsD; omega
theorem Qax {t : List Place} (h : ∀ p ∈ t, PlaceOK p) : ∀ d ∈ decsD t, DGood d :=
 Q7S _ _ (fun x hx => h x (List.mem_of_mem_drop hx)) (by simp)
theorem Qa3 : ∀ (l : List Con), (∀ c ∈ l, c.name.length < 2^40 ∧ NamesTy c.arg) → ∀ n ∈ nodesCons l, n.ok
 | [], _, n, hn => by cases hn
 | c :: l, h, n, hn => by
   simp only [nodesCons, List.mem_append] at hn
   rcases hn with hn | hn
   ·obtain ⟨h1, h2⟩ := h c List.mem_cons_self
    simp only [nodesCon, List.mem_cons] at hn
    rcases hn with rfl | hn
    ·exact h1
    ·cases hc : c.has with
     | false => rw [hc] at hn; cases hn
     | true =>
       rw [hc, cond_true, Q1V] at hn
       obtain ⟨u, hu, rfl⟩ := List.mem_map.1 hn
       exact h2.pre u hu
   ·exact Qa3 l (fun c hc => h c (List.mem_cons_of_mem _ hc)) n hn
theorem Qdn {d : Dec} (h : DGood d) : ∀ n ∈ nodesDecs false [d], n.ok := by
 obtain ⟨⟨h1, h2, h3, h4, h5⟩, h6, h7⟩ := h
 cases d with
 | mk k a s p l lb c cb f fb =>
   simp only [Dec.case, Dec.funs] at h2 h4
   subst h2 h4
   intro n hn
   simp only [nodesDecs, nodesDec, nodesCases, nodesFuns, List.nil_append, List.append_nil, List.mem_cons] at hn
   rcases hn with rfl | hn
   ·exact h6
   ·exact Qa3 l h7 n hn
end Go.Proofs.Ytoahliipbclneaa
namespace Go.Proofs.Ytoahliipbclneaa
open Go Go.Am
set_option linter.unusedVariables false
set_option maxRecDepth 4000
theorem Q4c (p : Place) (s : St) : cw (.f Q0b) [p.enc] s = some (.ret (.val (conD p).enc), s) := by
 obtain ⟨nm, data, tag, of_, has, vars, k, n, tn, l, b⟩ := p
 rw [Q5r]
 cases has with
 | false => simp only [go_sem, Nat.reduceAdd, Nat.reduceLeDiff, Place.enc, Place.cells_eq, Ty.kind, Ty.n, Ty.name, Ty.args, Ty.nl, conD, Con.enc, Con.cells, Bool.false_and, Ty.zero]
 | true =>
   by_cases h : (l.length : Int) = 2
   ·cases l with
    | nil => simp at h
    | cons a l =>
      have f1 : ixS 4 (.val (encS b ((a :: l).map Ty.enc))) (.val (.int .i64 0)) = some (.val (.cp a.cells)) := Q5i (n := 0) (v := a.enc) (Qk _ _) rfl (Ty.cells_len a) (by decide)
      simp only [List.map_cons, Qbd] at f1
      have h' : ((l.length + 1 : Nat) : Int) = 2 := h
      simp only [go_sem, Nat.reduceAdd, Nat.reduceLeDiff, Place.enc, Place.cells_eq, Ty.kind, Ty.n, Ty.name, Ty.args, Ty.nl, conD, Con.enc, Con.cells, Bool.true_and, decide_true, cond_true, List.map_cons, f1, List.headD_cons, List.length_map, List.length_cons, h', Ty.cells_eq]
   ·simp only [go_sem, Nat.reduceAdd, Nat.reduceLeDiff, Place.enc, Place.cells_eq, Ty.kind, Ty.n, Ty.name, Ty.args, Ty.nl, conD, Con.enc, Con.cells, Bool.true_and, decide_eq_false h, cond_false, List.length_map, Ty.zero]
    simp only [go_sem, h, decide_false, cond_false]
def dcell (q : Dec × Nat) : AV := .agg [.int .i64 q.1.kind, .int .i64 q.1.at_, .str q.1.name, .int .i64 q.1.params, .vs q.2 Qh 7 0 q.1.cons.length, .nils, .nils]
theorem Qbb (q : Dec × Nat) : (dcell q).cells.length = 7 := rfl
theorem Q0H (ps : List (Dec × Nat)) : ∀ v ∈ ps.map dcell, v.cells.length = 7 := fun v hv => by
 obtain ⟨q, _, rfl⟩ := List.mem_map.1 hv
 exact Qbb q
structure DA (s0 s : St) (x : Slot) (ps : List (Dec × Nat)) : Prop where
 grew : Grew s0 s
 at_ : (ps = [] ∧ x = .val .nils) ∨ ps ≠ [] ∧ ∃ loc, x = .val (.vs loc Qc 7 0 ps.length) ∧ s0.locs.length ≤ loc ∧ (∀ q ∈ ps, q.2 ≠ loc) ∧ Holds s loc (ps.map dcell)
 ge : ∀ q ∈ ps, s0.locs.length ≤ q.2
 nd : (ps.map Prod.snd).Nodup
 hold : ∀ q ∈ ps, Holds s q.2 (q.1.cons.map Con.enc)
 form : ∀ q ∈ ps, formD q.1
theorem Q7J (l : List Con) : ∀ v ∈ l.map Con.enc, v.cells.length = 7 := fun v hv => by
 obtain ⟨c, _, rfl⟩ := List.mem_map.1 hv
 exact Con.cells_len c
theorem DA.push {s0 s : St} {x : Slot} {ps : List (Dec × Nat)} (h : DA s0 s x ps) (d : Dec) (l : Nat) (hd : Holds s l (d.cons.map Con.enc)) (hl : s0.locs.length ≤ l) (hn : ∀ q ∈ ps, q.2 ≠ l) (hx : ∀ loc, x = .val (.vs loc Qc 7 0 ps.length) → loc ≠ l) (hf : formD d) (hb : ps.length < 2^28) :
  ∃ x' s', appendV Qc (C.ti Qc) s x (.full [dcell (d, l)]) = some (x', s') ∧ DA s0 s' x' (ps ++ [(d, l)]) := by
 have hnd : ((ps ++ [(d, l)]).map Prod.snd).Nodup := by
  rw [List.map_append, List.nodup_append]
  refine ⟨h.nd, by simp, fun a ha b hb => ?_⟩
  simp only [List.map_cons, List.map_nil, List.mem_singleton] at hb
  subst hb
  obtain ⟨q, hq, rfl⟩ := List.mem_map.1 ha
  exact hn q hq
 rcases h.at_ with ⟨rfl, rfl⟩ | ⟨hps, loc, rfl, h1, h2, h3⟩
 ·have e1 : appendV Qc (C.ti Qc) s (.val .nils) (.full [dcell (d, l)]) = some (.val (.vs s.locs.length Qc 7 0 1), s.addLoc (.var ((flatL [dcell (d, l)]).map .val))) := by
   unfold appendV
   simp only [Q6L, Zq (sz := (C.ti Qc).size) (l := [dcell (d, l)]) (by rw [Zi]; exact Q0H [(d, l)]) (by rw [Zi]; decide), cond_true]
   simp only [newV, Q5q, Zi]
   rw [if_pos ⟨by simp, by simp⟩]; rfl
  have g1 : Grew s (s.addLoc (.var ((flatL [dcell (d, l)]).map .val))) := (Grew.refl s).addLoc _
  refine ⟨_, _, e1, ⟨h.grew.trans g1, .inr ⟨by simp, s.locs.length, rfl, h.grew.locsLe, ?_, Q7W s [dcell (d, l)]⟩, ?_, hnd, ?_, ?_⟩⟩
  ·intro q hq
   simp only [List.nil_append, List.mem_singleton] at hq; subst hq
   exact Nat.ne_of_lt hd.lt
  ·intro q hq
   simp only [List.nil_append, List.mem_singleton] at hq; subst hq; exact hl
  ·intro q hq
   simp only [List.nil_append, List.mem_singleton] at hq; subst hq; exact hd.move g1
  ·intro q hq
   simp only [List.nil_append, List.mem_singleton] at hq; subst hq; exact hf
 ·have e1 := Q6j (e := Qc) (t := C.ti Qc) (y := .full [dcell (d, l)]) h3 (by rw [Zi]; exact Q0H ps) rfl (by simp) (by rw [Zi]; exact Q0H [(d, l)]) (by rw [Zi]; decide) (by rw [Q5q, List.length_map, List.length_singleton]; omega) (by rw [List.length_map, List.length_singleton]; omega)
  rw [Zi, List.length_map, List.length_singleton] at e1
  have hloc := hx loc rfl
  refine ⟨_, _, e1, ⟨Q7V h.grew h1 _, .inr ⟨by simp, s.locs.length, by rw [List.length_append, List.length_singleton], h.grew.locsLe, ?_, ?_⟩, ?_, hnd, ?_, ?_⟩⟩
  ·intro q hq
   rcases List.mem_append.1 hq with hq | hq
   ·exact Nat.ne_of_lt (h.hold q hq).lt
   ·simp only [List.mem_singleton] at hq; subst hq; exact Nat.ne_of_lt hd.lt
  ·have := Q6J s loc (ps.map dcell ++ [dcell (d, l)])
   rw [List.map_append]; exact this
  ·intro q hq
   rcases List.mem_append.1 hq with hq | hq
   ·exact h.ge q hq
   ·simp only [List.mem_singleton] at hq; subst hq; exact hl
  ·intro q hq
   rcases List.mem_append.1 hq with hq | hq
   ·exact (h.hold q hq).turn (h2 q hq) _
   ·simp only [List.mem_singleton] at hq; subst hq; exact hd.turn (Ne.symm hloc) _
  ·intro q hq
   rcases List.mem_append.1 hq with hq | hq
   ·exact h.form q hq
   ·simp only [List.mem_singleton] at hq; subst hq; exact hf
theorem DA.join {s0 s : St} {loc : Nat} {ps : List (Dec × Nat)} {d : Dec} {l : Nat} (h : DA s0 s (.val (.vs loc Qc 7 0 (ps ++ [(d, l)]).length)) (ps ++ [(d, l)])) (c : Con) (hb : d.cons.length < 2^28) :
  ∃ s1 s2, appendV Qh (C.ti Qh) s (.val (.vs l Qh 7 0 d.cons.length)) (.full [c.enc]) = some (.val (.vs s.locs.length Qh 7 0 (d.cons.length + 1)), s1) ∧
    stV s1 (.val (.vp loc (ps.length * 7 + 4))) [.val (.vs s.locs.length Qh 7 0 (d.cons.length + 1))] = some s2 ∧ DA s0 s2 (.val (.vs loc Qc 7 0 (ps ++ [(addCon d c, s.locs.length)]).length)) (ps ++ [(addCon d c, s.locs.length)]) := by
 have hm : (d, l) ∈ ps ++ [(d, l)] := by simp
 obtain ⟨loc', hx, h1, h2, h3⟩ : ∃ loc', Slot.val (.vs loc Qc 7 0 (ps ++ [(d, l)]).length) = .val (.vs loc' Qc 7 0 (ps ++ [(d, l)]).length) ∧ s0.locs.length ≤ loc' ∧ (∀ q ∈ ps ++ [(d, l)], q.2 ≠ loc') ∧ Holds s loc' ((ps ++ [(d, l)]).map dcell) := by
  rcases h.at_ with ⟨h, -⟩ | h
  ·simp at h
  ·exact h.2
 obtain rfl : loc = loc' := by injection hx with hx; injection hx
 have hd : Holds s l (d.cons.map Con.enc) := h.hold _ hm
 have e1 := Q6j (e := Qh) (t := C.ti Qh) (y := .full [c.enc]) hd (by rw [Z4]; exact Q7J _) rfl (by simp) (by rw [Z4]; exact Q7J [c]) (by rw [Z4]; decide) (by rw [Q5p, List.length_map, List.length_singleton]; omega) (by rw [List.length_map, List.length_singleton]; omega)
 rw [Z4, List.length_map, List.length_singleton] at e1
 have hne : loc ≠ l := Ne.symm (h2 _ hm)
 have hp := h3.turn hne (.var ((flatL (d.cons.map Con.enc ++ [c.enc])).map .val))
 have hlt := h3.lt
 have hpl : (flatL (ps.map dcell)).length = ps.length * 7 := by rw [Q0A (Q0H ps), List.length_map]
 have hcells : flatL ((ps ++ [(d, l)]).map dcell) = flatL (ps.map dcell) ++ [.int .i64 d.kind, .int .i64 d.at_, .str d.name, .int .i64 d.params, .vs l Qh 7 0 d.cons.length, .nils, .nils] := by
  rw [List.map_append, Q3b]; rfl
 have hcells2 : flatL ((ps ++ [(addCon d c, s.locs.length)]).map dcell) = flatL (ps.map dcell) ++ [.int .i64 d.kind, .int .i64 d.at_, .str d.name, .int .i64 d.params, .vs s.locs.length Qh 7 0 (d.cons.length + 1), .nils, .nils] := by
  rw [List.map_append, Q3b]
  simp [dcell, addCon, flatL, Dec.kind, Dec.at_, Dec.name, Dec.params, Dec.cons]
  rfl
 have e2 : stV (s.turn l (.var ((flatL (d.cons.map Con.enc ++ [c.enc])).map .val))) (.val (.vp loc (ps.length * 7 + 4))) [.val (.vs s.locs.length Qh 7 0 (d.cons.length + 1))] = some { s.turn l (.var ((flatL (d.cons.map Con.enc ++ [c.enc])).map .val)) with locs := (s.turn l (.var ((flatL (d.cons.map Con.enc ++ [c.enc])).map .val))).locs.set loc (.var ((flatL ((ps ++ [(addCon d c, s.locs.length)]).map dcell)).map .val)) } := by
  unfold Holds at hp
  rw [QbL hp (by rw [List.length_map, hcells, List.length_append, hpl]; simp only [List.length_cons, List.length_nil]; omega), hcells, hcells2]
  simp only [List.map_append, List.map_cons, List.map_nil, List.length_singleton]
  rw [List.take_append, List.take_of_length_le (by simp [hpl]), List.drop_append, List.drop_of_length_le (by simp only [List.length_map, hpl]; omega)]
  simp only [List.length_map, hpl]
  rw [show ps.length * 7 + 4 - ps.length * 7 = 4 by omega, show ps.length * 7 + 4 + 1 - ps.length * 7 = 5 by omega]
  simp only [List.take_succ_cons, List.take_zero, List.drop_succ_cons, List.drop_zero, List.nil_append, List.append_assoc, List.cons_append]
 refine ⟨_, _, e1, e2, ?_⟩
 have hnew := Q6J s l (d.cons.map Con.enc ++ [c.enc])
 have hlt2 : loc < (s.turn l (.var ((flatL (d.cons.map Con.enc ++ [c.enc])).map .val))).locs.length := by rw [Qcm]; omega
 have hsub : ∀ q ∈ ps, q ∈ ps ++ [(d, l)] := fun q hq => List.mem_append_left _ hq
 have hnd := h.nd
 rw [List.map_append, List.nodup_append] at hnd
 have hql : ∀ q ∈ ps, q.2 ≠ l := fun q hq => hnd.2.2 q.2 (List.mem_map_of_mem hq) l (by simp)
 refine ⟨?_, .inr ⟨by simp, loc, rfl, h1, ?_, ?_⟩, ?_, ?_, ?_, ?_⟩
 ·exact ((Moves.grew [] [] (Q7V h.grew (h.ge _ hm) _)).setLoc (.inr h1) _).toGrew
 ·intro q hq
  rcases List.mem_append.1 hq with hq | hq
  ·exact h2 q (hsub q hq)
  ·simp only [List.mem_singleton] at hq; subst hq; exact Nat.ne_of_gt hlt
 ·unfold Holds; simp only []; rw [List.getElem?_set_self hlt2]
 ·intro q hq
  rcases List.mem_append.1 hq with hq | hq
  ·exact h.ge q (hsub q hq)
  ·simp only [List.mem_singleton] at hq; subst hq; exact h.grew.locsLe
 ·rw [List.map_append, List.nodup_append]
  refine ⟨hnd.1, by simp, fun a ha b hb => ?_⟩
  simp only [List.map_cons, List.map_nil, List.mem_singleton] at hb
  subst hb
  obtain ⟨q, hq, rfl⟩ := List.mem_map.1 ha
  exact Nat.ne_of_lt (h.hold q (hsub q hq)).lt
 ·intro q hq
  rcases List.mem_append.1 hq with hq | hq
  ·exact ((h.hold q (hsub q hq)).turn (hql q hq) _).put (h2 q (hsub q hq)) _
  ·simp only [List.mem_singleton] at hq; subst hq
   refine Holds.put ?_ (Nat.ne_of_gt hlt) _
   simp only [addCon, Dec.cons, List.map_append, List.map_cons, List.map_nil]
   exact hnew
 ·intro q hq
  rcases List.mem_append.1 hq with hq | hq
  ·exact h.form q (hsub q hq)
  ·simp only [List.mem_singleton] at hq; subst hq; exact Q8R (h.form _ hm) c
def dslv (q : Dec × Nat) : AV := .agg [.int .i64 q.1.kind, .int .i64 q.1.at_, .str q.1.name, .int .i64 q.1.params, .sl (q.1.cons.map Con.enc), .nils, .nils]
theorem Con.ofC (c : Con) : ofCells (C.ti Qh) c.enc.cells = some c.enc := Q1W QaW (by rw [Z4]; exact Con.cells_len c)
theorem Con.plainC (c : Con) : ∀ x ∈ c.cells, plainV x = true := by
 intro x hx
 simp only [Con.cells, List.mem_cons] at hx
 rcases hx with rfl | rfl | rfl | hx
 ·rfl
 ·rfl
 ·rfl
 ·exact Ty.plainC c.arg x hx
theorem Qcb {q : Dec × Nat} (h : formD q.1) : dslv q = q.1.enc := by
 obtain ⟨h1, h2, h3, h4, h5⟩ := h
 simp only [dslv, Dec.enc, Dec.cells_eq, h1, h2, h3, h4, h5, Q2o, List.map_nil, Q18]
theorem Q6I {s0 : St} : ∀ (ps : List (Dec × Nat)) (s : St), Grew s0 s → (∀ q ∈ ps, s0.locs.length ≤ q.2) → (ps.map Prod.snd).Nodup → (∀ q ∈ ps, Holds s q.2 (q.1.cons.map Con.enc)) →
  ∃ s', frzW (Am.frz C.ti 15) (flatL (ps.map dcell)) s = some (flatL (ps.map dslv), s') ∧ Grew s0 s'
 | [], s, g, _, _, _ => ⟨s, rfl, g⟩
 | q :: ps, s, g, hg, hn, hh => by
   have e1 := Qbm (ti := C.ti) (e := Qh) (hh q List.mem_cons_self) 13 (fun v hv => by
    obtain ⟨c, _, rfl⟩ := List.mem_map.1 hv
    exact ⟨by rw [Z4]; exact Con.cells_len c, Con.ofC c⟩) (fun v hv => by
    obtain ⟨c, _, rfl⟩ := List.mem_map.1 hv
    exact Con.plainC c) (by rw [Z4]; decide)
   rw [Z4, List.length_map] at e1
   simp only [List.map_cons, List.nodup_cons] at hn
   obtain ⟨s', e2, g2⟩ := Q6I ps (s.kill q.2) (Q3c g (hg q List.mem_cons_self) _) (fun w hw => hg w (List.mem_cons_of_mem _ hw)) hn.2 (fun w hw => (hh w (List.mem_cons_of_mem _ hw)).kill (fun e => hn.1 (e ▸ List.mem_map_of_mem hw)))
   refine ⟨s', ?_, g2⟩
   rw [List.map_cons, List.map_cons, Q0J, Q0J, Q8W]
   have e3 : frzW (Am.frz C.ti 15) (dcell q).cells s = some ((dslv q).cells, s.kill q.2) := by
    simp only [dcell, dslv, Q0y, frzW, Q1b C.ti 14 (v := .int .i64 q.1.kind) rfl, Q1b C.ti 14 (v := .int .i64 q.1.at_) rfl, Q1b C.ti 14 (v := .int .i64 q.1.params) rfl, Q1b C.ti 14 (v := .str q.1.name) rfl, e1, Q1b C.ti 14 (v := .nils) rfl]
   rw [e3]
   simp only []
   rw [e2]
theorem DA.frz {s0 s : St} {x : Slot} {ps : List (Dec × Nat)} (h : DA s0 s x ps) : ∃ s', frzSlot C.ti x s = some (.val (encS true ((ps.map Prod.fst).map Dec.enc)), s') ∧ Grew s0 s' := by
 rcases h.at_ with ⟨rfl, rfl⟩ | ⟨hps, loc, rfl, h1, h2, h3⟩
 ·exact ⟨s, rfl, h.grew⟩
 ·obtain ⟨s', e2, g2⟩ := Q6I (s0 := s0) ps (s.kill loc) (Q3c h.grew h1 _) h.ge h.nd (fun q hq => (h.hold q hq).kill (h2 q hq))
  have hl := Q0A (Q0H ps)
  refine ⟨s', ?_, g2⟩
  unfold Holds at h3
  have e3 : rows (C.ti Qc) ps.length (flatL (ps.map dslv)) = some (ps.map dslv) := by
   have := Q2s (t := C.ti Qc) (l := ps.map dslv) (fun v hv => by
    obtain ⟨q, _, rfl⟩ := List.mem_map.1 hv
    exact ⟨by rw [Zi]; rfl, Q1W QaX (by rw [Zi]; rfl)⟩)
   rw [List.length_map] at this; exact this
  have e4 : ps.map dslv = (ps.map Prod.fst).map Dec.enc := by
   rw [List.map_map]; exact List.map_congr_left fun q hq => Qcb (h.form q hq)
  simp only [frzSlot, Am.frz, h3]
  rw [Nat.zero_mul, List.drop_zero, List.take_of_length_le (by simp only [List.length_map, hl]; omega), Q3k]
  simp only [St.kill] at e2
  simp only []
  rw [e2]
  simp only []
  rw [e3]
  simp only [List.length_map, hl, Nat.zero_add]
  rw [show (Nat.blt 0 7 && Nat.ble (ps.length * 7) (ps.length * 7)) = true by simp [Nat.blt_eq, Nat.ble_eq]]
  simp only [cond_true]
  have : encS true ((ps.map Prod.fst).map Dec.enc) = .sl ((ps.map Prod.fst).map Dec.enc) := by
   cases hp : ps with
   | nil => exact absurd hp hps
   | cons q ps => rfl
  rw [this, ← e4]
end Go.Proofs.Ytoahliipbclneaa
namespace Go.Proofs.Ytoahliipbclneaa
open Go Go.Am
set_option linter.unusedVariables false
theorem Q4f {inn : Bool} : ∀ {P : List Dec} {d : Dec}, d ∈ P → .dec inn d ∈ nodesDecs inn P
 | d :: P, e, h => by
   simp only [nodesDecs]
   rcases List.mem_cons.1 h with rfl | h
   ·cases e; simp only [nodesDec]; exact List.mem_append_left _ List.mem_cons_self
   ·exact List.mem_append_right _ (Q4f h)
theorem Qbc {P : List Dec} (hs : Dec.sizes P < 2^24) (h : rightN (nodesDecs false P) (deepDecs P 0) = .zero) : ∀ d ∈ P, DecFit d := by
 intro d hd
 have hw : wrongDecB d false = 0 := Q9Q h _ (Q4f hd)
 have D := Qf1 hw
 have hsz := Dec.mem_sizes hd
 constructor
 ·by_cases h3 : d.kind = 3
  ·have := (D.data h3).2.2.2.1; omega
  ·have := (D.bare h3).1; omega
 ·intro c hc
  have h1 := Con.mem_sizes hc
  have h2 : Con.sizes d.cons ≤ d.size := by
   cases d; simp only [Dec.size, Dec.cons]; omega
  refine Q1C _ ?_
  simp only [Con.size] at h1
  omega
end Go.Proofs.Ytoahliipbclneaa