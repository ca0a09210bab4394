/- A part of the proof: SRef11, SRef11b, SRef11c, SRef3, SRef4, SRef6, SFitR. -/
import Derived.Test.YtoahliipbclneaaGreatM6
import Derived.Test.YtoahliipbclneaaGreatM7
import Derived.Test.YtoahliipbclneaaGreatM8
import Derived.Test.YtoahliipbclneaaGreatM11
import Derived.Test.YtoahliipbclneaaGreatM12
import Derived.Test.YtoahliipbclneaaGreatM13
set_option linter.unusedVariables false
set_option linter.unusedSimpArgs false
namespace Go.Proofs.YtoahliipbclneaaGreat
open Go Go.Am
set_option linter.unusedVariables false
set_option maxRecDepth 4000
theorem Q5I (nm : Str) (s : St) : cw (.f Q2E) [.str nm] s = some (.ret (.val (ofTy nm []).enc), s) := by
 rw [Qc7]; simp only [go_sem, Nat.reduceAdd, Nat.reduceLeDiff, ofTy, Ty.enc, Ty.cells_mk, List.map_nil, Zq]
theorem Q2Q (nm : Str) (s : St) : cw (.f Q1k) [.str nm] s = some (.ret (.val (.bool (givenR nm))), s) := by
 rw [Qc6]; simp only [go_sem, givenR, sInt, sBool, sUnit, sExn, sRef, sArrow, sStar]
 rfl
def TabFit (t : List Place) : Prop := t.length < 2^26 ∧ ∀ p ∈ t, p.ty.size < 2^27
theorem TabFit.wide {t : List Place} (h : TabFit t) : ∀ p ∈ t, WideTy p.ty := fun p hp => Q1Z _ (by have := h.2 p hp; omega)
theorem Q6c (nm : Str) (t : List Place) (h : TabFit t) (z : List Slot) (hz : z.length = 10) (y : Slot) (hy : y.list? = some (t.map Place.enc)) : ∀ (suf pre : List Place) (s : St) (i : Nat), pre ++ suf = t → i = pre.length →
  Ret (Q1s y (.val (.str nm)) z (.val (.int .i64 i)) s) s (foundD ((findD nm suf).map ownP))
 | [], pre, s, i, hp, hi => by
   subst hi
   rw [Q5E]; simp only [go_sem, Nat.reduceAdd, Nat.reduceLeDiff, hy, List.length_map, Qa (show pre = t by simpa using hp), hz, findD, foundD, Place.enc, Place.cells_eq, Place.zero]
   exact Ret.same _ _
 | p :: suf, pre, s, i, hp, hi => by
   subst hi
   obtain ⟨f1, f2, f3⟩ := Q8 hy hp (by have := h.1; omega) (Place.cells_len p) (by decide)
   have hpm : p ∈ t := by rw [← hp]; simp
   obtain ⟨s1, e1, g1⟩ := Q0o _ p.ty (Nat.le_refl _) (by have := h.2 p hpm; omega) s
   have ih := Q6c nm t h z hz y hy suf (pre ++ [p]) s (pre.length + 1) (by simpa using hp) (by simp)
   rw [Q5E]
   simp only [Ty.enc, Ty.cells_eq] at e1
   by_cases hn : p.name = nm
   ·refine ⟨s1, ?_, g1⟩
    simp only [go_sem, Nat.reduceAdd, Nat.reduceLeDiff, hy, List.length_map, f1, f2, f3, Place.cells_eq, hn, decide_true, e1, hz, findD, if_true, Option.map_some, foundD, Place.enc, ownP]
   ·simp only [go_sem, Nat.reduceAdd, Nat.reduceLeDiff, hy, List.length_map, f1, f2, f3, Place.cells_eq, hn, decide_false, findD, if_false]
    exact ih
theorem Qb8 (nm : Str) (t : List Place) (h : TabFit t) (v : AV) (hv : (Slot.val v).list? = some (t.map Place.enc)) (s : St) : Ret (cw (.f Q34) [v, .str nm] s) s (foundD ((findD nm t).map ownP)) := by
 have e1 := Q6c nm t h ([.val (.str []), .val (.str []), .val (.int .i64 0), .val (.int .i64 0), .val (.bool false), .val (.int .i64 0), .val (.int .i64 0), .val (.int .i64 0), .val (.str []), .val .nils]) rfl (.val v) hv t [] s 0 rfl rfl
 rw [show ((0 : Nat) : Int) = 0 from rfl] at e1
 rw [Qdp]
 simp only [go_sem] at e1 ⊢
 exact e1
theorem Q3q (data : Str) (t : List Place) (h : TabFit t) (y : Slot) (hy : y.list? = some (t.map Place.enc)) (s0 : St) : ∀ (suf pre A : List Place) (x : Slot) (s : St) (i : Nat), AccR Q5 s0 s x (A.map Place.enc) → pre ++ suf = t → i = pre.length → A.length ≤ pre.length →
  RetA (Q0f y (.val (.str data)) x (.val (.int .i64 i)) s) Q5 s0 ((A ++ dataR data suf).map Place.enc)
 | [], pre, A, x, s, i, ha, hp, hi, hA => by
   subst hi
   rw [Q5C]; simp only [go_sem, hy, List.length_map, Qa (show pre = t by simpa using hp)]
   exact ⟨x, s, rfl, by simpa [dataR] using ha⟩
 | p :: suf, pre, A, x, s, i, ha, hp, hi, hA => by
   subst hi
   obtain ⟨f1, f2, f3⟩ := Q8 hy hp (by have := h.1; omega) (Place.cells_len p) (by decide)
   have hpm : p ∈ t := by rw [← hp]; simp
   have hlt : pre.length < t.length := by rw [← hp]; simp
   have hl := h.1
   rw [Q5C]
   by_cases hn : p.data = data
   ·obtain ⟨s1, e1, g1⟩ := Q0o _ p.ty (Nat.le_refl _) (by have := h.2 p hpm; omega) s
    obtain ⟨x2, s2, e2, a2⟩ := placeAcc (ha.move g1) (ownP p) (by omega)
    have ih := Q3q data t h y hy s0 suf (pre ++ [p]) (A ++ [ownP p]) x2 s2 (pre.length + 1) a2 (by simpa using hp) (by simp) (by simp only [List.length_append, List.length_cons, List.length_nil]; omega)
    have hd : A ++ dataR data (p :: suf) = A ++ [ownP p] ++ dataR data suf := by simp [dataR, hn]
    rw [hd]
    revert ih
    generalize (A ++ [ownP p] ++ dataR data suf).map Place.enc = L
    intro ih
    simp only [Ty.enc, Ty.cells_eq] at e1
    simp only [ownP, Place.enc, Place.cells_eq, hn] at e2
    simp only [go_sem, Nat.reduceAdd, Nat.reduceLeDiff, hy, List.length_map, f1, f2, f3, Place.cells_eq, hn, decide_true, e1, e2] at ih ⊢
    exact ih
   ·have ih := Q3q data t h y hy s0 suf (pre ++ [p]) A x s (pre.length + 1) ha (by simpa using hp) (by simp) (by simp only [List.length_append, List.length_cons, List.length_nil]; omega)
    have hd : dataR data (p :: suf) = dataR data suf := by simp [dataR, hn]
    rw [hd]
    revert ih
    generalize (A ++ dataR data suf).map Place.enc = L
    intro ih
    simp only [go_sem, Nat.reduceAdd, Nat.reduceLeDiff, hy, List.length_map, f1, f2, f3, Place.cells_eq, hn, decide_false]
    exact ih
theorem Q6b (data : Str) (t : List Place) (h : TabFit t) (v : AV) (hv : (Slot.val v).list? = some (t.map Place.enc)) (s : St) : RetA (cw (.f Q1L) [v, .str data] s) Q5 s ((dataR data t).map Place.enc) := by
 have e1 := Q3q data t h (.val v) hv s t [] [] (.val .nils) s 0 (AccR.nil _ _) rfl rfl (by simp)
 rw [show ((0 : Nat) : Int) = 0 from rfl] at e1
 rw [Qdn]
 simpa using e1
theorem Q4M (t : List Place) (h : TabFit t) (y : Slot) (hy : y.list? = some (t.map Place.enc)) (s0 : St) : ∀ (suf pre : List Place) (x : Slot) (s : St) (i : Nat), AccR Q5 s0 s x ((pre.map ownP).map Place.enc) → pre ++ suf = t → i = pre.length →
  RetA (Q0t y x (.val (.int .i64 i)) s) Q5 s0 ((t.map ownP).map Place.enc)
 | [], pre, x, s, i, ha, hp, hi => by
   subst hi
   have hpt : pre = t := by simpa using hp
   subst hpt
   refine ⟨x, s, ?_, ha⟩
   rw [Q4g]; simp only [go_sem, hy, List.length_map, Qa rfl]
 | p :: suf, pre, x, s, i, ha, hp, hi => by
   subst hi
   obtain ⟨f1, f2, f3⟩ := Q8 hy hp (by have := h.1; omega) (Place.cells_len p) (by decide)
   have hpm : p ∈ t := by rw [← hp]; simp
   have hlt : pre.length < t.length := by rw [← hp]; simp
   have hl := h.1
   obtain ⟨s1, e1, g1⟩ := Q0o _ p.ty (Nat.le_refl _) (by have := h.2 p hpm; omega) s
   obtain ⟨x2, s2, e2, a2⟩ := placeAcc (ha.move g1) (ownP p) (by rw [List.length_map]; omega)
   have ih := Q4M t h y hy s0 suf (pre ++ [p]) x2 s2 (pre.length + 1) (by rw [List.map_append]; exact a2) (by simpa using hp) (by simp)
   rw [Q4g]
   simp only [Ty.enc, Ty.cells_eq] at e1
   simp only [ownP, Place.enc, Place.cells_eq] at e2
   revert ih
   generalize (t.map ownP).map Place.enc = L
   intro ih
   simp only [go_sem, Nat.reduceAdd, Nat.reduceLeDiff, hy, List.length_map, f1, f2, f3, Place.cells_eq, e1, e2] at ih ⊢
   exact ih
theorem Q4N (t : List Place) (h : TabFit t) (v : AV) (hv : (Slot.val v).list? = some (t.map Place.enc)) (s : St) : RetA (cw (.f Q0J) [v] s) Q5 s ((t.map ownP).map Place.enc) := by
 have e1 := Q4M t h (.val v) hv s t [] (.val .nils) s 0 (AccR.nil _ _) rfl rfl
 rw [show ((0 : Nat) : Int) = 0 from rfl] at e1
 rw [Qb9]
 exact e1
theorem Q3C (nm : Str) (t : List Place) (h : TabFit t) (v : AV) (hv : (Slot.val v).list? = some (t.map Place.enc)) (s : St) : Ret (cw (.f Q1c) [v, .str nm] s) s (.tup [.int .i64 (dtR t nm).1, .bool (dtR t nm).2]) := by
 obtain ⟨x1, s1, e1, a1⟩ := Q6b nm t h v hv s
 have e2 := Q2Q nm s1
 refine ⟨s1, ?_, a1.grew⟩
 have hl := a1.list?
 rw [Q8V]
 unfold dtR
 cases hg : givenR nm with
 | true =>
   rw [hg] at e2
   simp only [go_sem, e1, e2, hl, cond_true]
 | false =>
   rw [hg] at e2
   cases hd : dataR nm t with
   | nil =>
     rw [hd] at hl
     simp only [List.map_nil] at hl
     simp only [go_sem, e1, e2, hl, cond_false, List.length_nil, Int.natCast_zero, decide_true, Bool.false_or]
   | cons p l =>
     rw [hd] at hl
     have hix : ixS 10 x1 (.val (.int .i64 0)) = some (.val (.cp p.enc.cells)) := Q3S (n := 0) hl rfl (Place.cells_len p) (by decide)
     have hne : decide (((l.length + 1 : Nat) : Int) = 0) = false := by simp only [decide_eq_false_iff_not]; omega
     simp only [go_sem, e1, e2, hl, cond_false, List.length_map, List.length_cons, hne, Bool.false_or, hix, Place.cells_eq]
theorem Qa1 (t : List Place) (h : TabFit t) (d : Dec) (u : Ty) (v : AV) (hv : (Slot.val v).list? = some (t.map Place.enc)) (s : St) : Ret (cw (.f Q2F) [v, d.enc, u.enc] s) s (.tup [.int .i64 (wrongR t d u).1, .str (wrongR t d u).2]) := by
 have e1 := Q2Q u.name s
 obtain ⟨s2, e2, g2⟩ := Q3C u.name t h v hv s
 have J : ∀ (m : Int) (b : Bool) (s : St), Q15 (u.cells.map .val) (.val (.int .i64 m)) (.val (.bool b)) s = some (.ret (.val (.tup [.int .i64 (bif !b then ((8, u.name) : Int × Str) else bif !decide ((u.args.length : Int) = m) then (19, u.name) else (0, [])).1, .str (bif !b then ((8, u.name) : Int × Str) else bif !decide ((u.args.length : Int) = m) then (19, u.name) else (0, [])).2])), s) := fun m b s => by
  rw [Q8W]
  cases b with
  | false => simp only [go_sem, Nat.reduceAdd, Nat.reduceLeDiff, Ty.cells_eq, List.map_cons, List.map_nil, Bool.not_false, cond_true]
  | true =>
    by_cases hl : (u.args.length : Int) = m
    ·simp only [go_sem, Nat.reduceAdd, Nat.reduceLeDiff, Ty.cells_eq, List.map_cons, List.map_nil, Bool.not_true, cond_false, List.length_map, decide_eq_true hl]
    ·simp only [go_sem, Nat.reduceAdd, Nat.reduceLeDiff, Ty.cells_eq, List.map_cons, List.map_nil, Bool.not_true, cond_false, List.length_map, decide_eq_false hl, Bool.not_false, cond_true]
 simp only [Ty.cells_eq, List.map_cons, List.map_nil] at J
 by_cases hk : u.kind = 1
 ·refine ⟨s, ?_, .refl s⟩
  rw [Q3U]
  unfold wrongR
  rw [decide_eq_true hk]
  by_cases h3 : d.kind = 3
  ·by_cases hn : u.n ≥ d.params
   ·simp only [go_sem, Nat.reduceAdd, Dec.enc, Dec.cells_eq, Ty.enc, Ty.cells_eq, List.map_cons, List.map_nil, decide_eq_true hk, decide_eq_true h3, decide_eq_true hn, Bool.not_true, cond_true, Bool.or_true]
   ·simp only [go_sem, Nat.reduceAdd, Dec.enc, Dec.cells_eq, Ty.enc, Ty.cells_eq, List.map_cons, List.map_nil, decide_eq_true hk, decide_eq_true h3, decide_eq_false hn, Bool.not_true, cond_true, cond_false, Bool.or_false]
  ·simp only [go_sem, Nat.reduceAdd, Dec.enc, Dec.cells_eq, Ty.enc, Ty.cells_eq, List.map_cons, List.map_nil, decide_eq_true hk, decide_eq_false h3, Bool.not_false, cond_true, Bool.true_or]
 ·unfold wrongR
  rw [decide_eq_false hk, cond_false]
  cases hg : givenR u.name with
  | true =>
    rw [hg] at e1
    refine ⟨s, ?_, .refl s⟩
    rw [Q3U]
    simp only [go_sem, Nat.reduceAdd, Dec.enc, Dec.cells_eq, Ty.enc, Ty.cells_eq, List.map_cons, List.map_nil, decide_eq_false hk, e1, cond_true]
  | false =>
    rw [hg] at e1
    refine ⟨s2, ?_, g2⟩
    rw [Q3U]
    unfold wrongR1
    by_cases h3 : d.kind = 3
    ·by_cases hn : u.name = d.name
     ·rw [decide_eq_true h3, decide_eq_true hn]
      simp only [go_sem, Nat.reduceAdd, Dec.enc, Dec.cells_eq, Ty.enc, Ty.cells_eq, List.map_cons, List.map_nil, decide_eq_false hk, e1, e2, decide_eq_true h3, decide_eq_true hn, J, cond_true, cond_false, Bool.not_true, Bool.and_self]
     ·rw [decide_eq_true h3, decide_eq_false hn]
      simp only [go_sem, Nat.reduceAdd, Dec.enc, Dec.cells_eq, Ty.enc, Ty.cells_eq, List.map_cons, List.map_nil, decide_eq_false hk, e1, e2, decide_eq_true h3, decide_eq_false hn, J, cond_true, cond_false, Bool.and_false]
    ·rw [decide_eq_false h3]
     simp only [go_sem, Nat.reduceAdd, Dec.enc, Dec.cells_eq, Ty.enc, Ty.cells_eq, List.map_cons, List.map_nil, decide_eq_false hk, e1, e2, decide_eq_false h3, J, cond_false, Bool.false_and]
end Go.Proofs.YtoahliipbclneaaGreat
namespace Go.Proofs.YtoahliipbclneaaGreat
open Go Go.Am
set_option linter.unusedVariables false
set_option maxRecDepth 4000
theorem Q6D (i : Nat) : varsTy (i + 1) = varsTy i ++ [tvar (i : Int)] := by simp [varsTy, List.range_succ]
section
variable (t : List Place) (d : Dec) (v : AV) (s0 : St)
def cbad (c : Con) (e : Int × Str) : TBad := ⟨e.1, c.at_, e.2⟩
theorem Q6a (h : TabFit t) (hv : (Slot.val v).list? = some (t.map Place.enc)) (c : Con) (L : List Ty) (y : Slot) (hy : y.list? = some (L.map tnd)) (hL : L.length < 2^40) (x8 x9 : Slot) (x13 x14 : List Slot) : ∀ (suf pre : List Ty) (s : St) (i : Nat), pre ++ suf = L → i = pre.length → Grew s0 s →
  ∃ s', Grew s s' ∧ Q05 (.val v) (d.cells.map .val) zb x8 x9 (c.cells.map .val) x13 x14 y (.val (.int .i64 i)) s =
    (if (firstW t d suf).1 ≠ 0 then some (.ret (.val (.tup [.nils, (cbad c (firstW t d suf)).enc])), s')
     else Q05 (.val v) (d.cells.map .val) zb x8 x9 (c.cells.map .val) x13 x14 y (.val (.int .i64 L.length)) s')
 | [], pre, s, i, hp, hi, g => by
   subst hi
   have hpl : pre.length = L.length := by rw [← hp]; simp
   exact ⟨s, .refl s, by rw [hpl]; simp [firstW]⟩
 | u :: suf, pre, s, i, hp, hi, g => by
   subst hi
   obtain ⟨f1, f2, f3⟩ := Q8 (f := tnd) hy hp (by omega) (Qk0 _) (by decide)
   obtain ⟨s1, e1, g1⟩ := Qa1 t h d u v hv s
   have e1' := e1
   simp only [Dec.enc, Dec.cells_eq, Ty.enc, Ty.cells_eq] at e1'
   by_cases hw : (wrongR t d u).1 = 0
   ·obtain ⟨s2, g2, e2⟩ := Q6a h hv c L y hy hL x8 x9 x13 x14 suf (pre ++ [u]) s1 (pre.length + 1) (by simpa using hp) (by simp) (g.trans g1)
    have hf : firstW t d (u :: suf) = firstW t d suf := by simp only [firstW]; rw [if_neg (by simpa using hw)]
    refine ⟨s2, g1.trans g2, ?_⟩
    rw [hf, ← e2, Q3p]
    simp only [go_sem, Nat.reduceAdd, Nat.reduceLeDiff, Nat.reduceSub, hy, List.length_map, f1, f2, f3, tnd, TNode.enc, TNode.cells, Dec.cells_len, Exp.cells_len, Pat.cells_len, Ty.cells_eq, Dec.cells_eq, List.map_cons, List.map_nil, e1', hw, decide_true, Bool.not_true, List.cons_append, List.nil_append]
   ·have hf : firstW t d (u :: suf) = wrongR t d u := by simp only [firstW]; rw [if_pos (by simpa using hw)]
    refine ⟨s1, g1, ?_⟩
    rw [hf, if_pos (by simpa using hw), Q3p]
    simp only [go_sem, Nat.reduceAdd, Nat.reduceLeDiff, Nat.reduceSub, hy, List.length_map, f1, f2, f3, tnd, TNode.enc, TNode.cells, Dec.cells_len, Exp.cells_len, Pat.cells_len, Ty.cells_eq, Dec.cells_eq, List.map_cons, List.map_nil, e1', decide_eq_false hw, Bool.not_false, List.cons_append, List.nil_append, Con.cells, cbad, zb, TBad.enc, TBad.cells]
noncomputable abbrev rl0 (x : Slot) (i : Nat) (s : St) : Res := Q1W (.val v) (d.cells.map .val) zb x (.val (.int .i64 i)) s
def pcells (nm data : Str) (tag of_ : Int) (has : Bool) (vars : Int) (z : List Slot) : List Slot := .val (.str nm) :: .val (.str data) :: .val (.int .i64 tag) :: .val (.int .i64 of_) :: .val (.bool has) :: .val (.int .i64 vars) :: z
theorem Q4J (nm data : Str) (tag of_ : Int) (has : Bool) (vars : Int) (a b c e : Slot) (res : Ty) (x14 : List Slot) (h14 : ofSlots (C.ti Q4) (List.take 4 x14) = some (.val res.enc)) (out : List Place) (x : Slot) (s : St) (i : Nat) (ha : AccR Q5 s0 s x (out.map Place.enc)) (ho : out.length < 2^28) (hi : i < 2^40) :
  ∃ x' s', Q1V (.val v) (d.cells.map .val) zb x (.val (.int .i64 i)) (pcells nm data tag of_ has vars [a, b, c, e]) x14 s = rl0 d v x' (i + 1) s' ∧ AccR Q5 s0 s' x' ((out ++ [Place.mk nm data tag of_ has vars res]).map Place.enc) := by
 obtain ⟨x', s', e1, a1⟩ := placeAcc ha ⟨nm, data, tag, of_, has, vars, res⟩ (by omega)
 refine ⟨x', s', ?_, a1⟩
 rw [Qb6]
 simp only [Place.enc, Place.cells_eq] at e1
 simp only [Ty.enc, Ty.cells_eq] at h14
 simp only [go_sem, Nat.reduceAdd, Nat.reduceLeDiff, h14, pcells, e1, Q2S (show i < 2^62 by omega)]
def argBad (t : List Place) (d : Dec) (con : Con) : Int × Str := bif con.has then firstW t d (preTy con.arg) else (0, [])
theorem Q4I (h : TabFit t) (hv : (Slot.val v).list? = some (t.map Place.enc)) (con : Con) (hc : con.arg.size < 2^26) (data : Str) (tag of_ : Int) (vars : Int) (a b c e : Slot) (res : Ty) (hr : res.size < 2^26) (x14 : List Slot) (hl14 : x14.length = 4) (h14 : ofSlots (C.ti Q4) (List.take 4 x14) = some (.val res.enc)) (out : List Place) (x : Slot) (s : St) (i : Nat) (ha : AccR Q5 s0 s x (out.map Place.enc)) (ho : out.length < 2^28) (hi : i < 2^40) (r : Res) (hreq : r = Q12 (.val v) (d.cells.map .val) zb x (.val (.int .i64 i)) (con.cells.map .val) (pcells con.name data tag of_ con.has vars [a, b, c, e]) x14 s) :
  ((argBad t d con).1 ≠ 0 → ∃ s', Grew s0 s' ∧ r = some (.ret (.val (.tup [.nils, (cbad con (argBad t d con)).enc])), s')) ∧
  ((argBad t d con).1 = 0 → ∃ x' s', r = rl0 d v x' (i + 1) s' ∧ AccR Q5 s0 s' x' ((out ++ [Place.mk con.name data tag of_ con.has vars (bif con.has then fnTy con.arg res else res)]).map Place.enc)) := by
 subst hreq
 unfold argBad
 cases hh : con.has with
 | false =>
   refine ⟨fun hx => absurd rfl hx, fun _ => ?_⟩
   obtain ⟨x', s', e1, a1⟩ := Q4J d v s0 con.name data tag of_ false vars a b c e res x14 h14 out x s i ha ho hi
   refine ⟨x', s', ?_, a1⟩
   rw [← e1, Q68]
   simp only [go_sem, Nat.reduceAdd, Nat.reduceLeDiff, Con.cells, Ty.cells_eq, List.map_cons, List.map_nil, hh]
 | true =>
   simp only [cond_true]
   obtain ⟨x1, s1, e1, a1⟩ := QiJ con.arg s (by omega)
   have hl := QcL con.arg
   obtain ⟨s2, g2, e2⟩ := Q6a t d v s0 h hv con (preTy con.arg) x1 a1.list? (by omega) x (.val (.int .i64 i)) (pcells con.name data tag of_ true vars [a, b, c, e]) x14 (preTy con.arg) [] s1 0 rfl rfl (ha.grew.trans a1.grew)
   rw [show ((0 : Nat) : Int) = 0 from rfl] at e2
   have e3 : Q12 (.val v) (d.cells.map .val) zb x (.val (.int .i64 i)) (con.cells.map .val) (pcells con.name data tag of_ true vars [a, b, c, e]) x14 s = Q05 (.val v) (d.cells.map .val) zb x (.val (.int .i64 i)) (con.cells.map .val) (pcells con.name data tag of_ true vars [a, b, c, e]) x14 x1 (.val (.int .i64 0)) s1 := by
    rw [Q68]
    simp only [Ty.enc, Ty.cells_eq] at e1
    simp only [go_sem, Nat.reduceAdd, Nat.reduceLeDiff, Con.cells, Ty.cells_eq, List.map_cons, List.map_nil, hh, e1]
   constructor
   ·intro hx
    refine ⟨s2, (ha.grew.trans a1.grew).trans g2, ?_⟩
    rw [e3, e2, if_pos hx]
   ·intro hx
    obtain ⟨s3, e4, g3⟩ := Qdl con.arg res s2 (by omega)
    obtain ⟨x', s', e5, a5⟩ := Q4J d v s0 con.name data tag of_ true vars a b c e (fnTy con.arg res) ((fnTy con.arg res).cells.map .val) (by kernel_rfl) out x s3 i (((ha.move a1.grew).move g2).move g3) ho hi
    refine ⟨x', s', ?_, a5⟩
    rw [e3, e2, if_neg (by simpa using hx), ← e5, Q3p]
    have hend : decide (((preTy con.arg).length : Int) < ((preTy con.arg).length : Int)) = false := by simp
    simp only [Ty.enc, Ty.cells_eq] at e4
    simp only [go_sem, Nat.reduceLeDiff, hl14, Ty.enc, Ty.cells_eq] at h14
    have hdr : List.drop 4 x14 = [] := List.drop_eq_nil_of_le (by omega)
    simp only [go_sem, Nat.reduceAdd, Nat.reduceLeDiff, a1.list?, List.length_map, hend, Con.cells, Ty.cells_eq, List.map_cons, List.map_nil, h14, e4, hl14, hdr]
def nvars (d : Dec) : Nat := bif decide (d.kind = 3) then d.params.toNat else 0
def own14 (d : Dec) (x : Slot) : List Slot := [.val (.int .i64 2), .val (.int .i64 0), .val (.str d.name), x]
theorem Q69 (hp : d.params < 2^20) (con : Con) (x8 x9 : Slot) (x13 : List Slot) (s1 : St) : ∀ (k i : Nat) (x : Slot) (s : St), AccH Q4 s1.toks.length [] s x ((varsTy i).map Ty.enc) → Moves [] [] [] s1 s → i + k = nvars d →
  ∃ x' s', Q04 (.val v) (d.cells.map .val) zb x8 x9 (con.cells.map .val) x13 (own14 d x) (.val (.int .i64 i)) s = Q04 (.val v) (d.cells.map .val) zb x8 x9 (con.cells.map .val) x13 (own14 d x') (.val (.int .i64 (nvars d : Nat))) s' ∧ AccH Q4 s1.toks.length [] s' x' ((varsTy (nvars d)).map Ty.enc) ∧ Grew s1 s'
 | 0, i, x, s, a, m, h => by
   have hi : i = nvars d := by omega
   subst hi
   exact ⟨x, s, rfl, a, m.toGrew⟩
 | k + 1, i, x, s, a, m, h => by
   have h3 : d.kind = 3 := by
    by_cases h3 : d.kind = 3
    ·exact h3
    ·simp only [nvars, decide_eq_false h3, cond_false] at h; omega
   have hn : nvars d = d.params.toNat := by simp only [nvars, decide_eq_true h3, cond_true]
   have hd : decide ((i : Int) < d.params) = true := by simp only [decide_eq_true_eq]; omega
   obtain ⟨x2, s2, e2, a2, m2, -, -, -⟩ := tyAcc (B := [tvar (i : Int)]) a m (by simp) (y := .full [(tvar (i : Int)).enc]) rfl (by simp only [varsTy, List.length_map, List.length_range, List.length_singleton]; omega)
   rw [← Q6D] at a2
   obtain ⟨x', s', e3, a3, g3⟩ := Q69 hp con x8 x9 x13 s1 k (i + 1) x2 s2 a2 m2 (by omega)
   refine ⟨x', s', ?_, a3, g3⟩
   rw [← e3, Q1J]
   simp only [tvar, Ty.enc, Ty.cells_mk, List.map_nil, Zq] at e2
   simp only [go_sem, Nat.reduceAdd, Nat.reduceLeDiff, hd, Dec.cells_eq, List.map_cons, List.map_nil, decide_eq_true h3, own14, e2, a2.cellOk, Q2S (show i < 2^62 by omega)]
theorem QiL (x : Slot) (l : List Ty) (hx : x.av = some (encS true (l.map Ty.enc))) : ofSlots (C.ti Q4) (List.take 4 (own14 d x)) = some (.val (Ty.mk 2 0 d.name l true).enc) := by
 simp only [go_sem, Nat.reduceAdd, Nat.reduceLeDiff, own14, QH hx, Ty.enc, Ty.cells_mk]
theorem Qc3 (h : TabFit t) (hv : (Slot.val v).list? = some (t.map Place.enc)) (hp : d.params < 2^20) (hl : d.cons.length < 2^22) (con : Con) (hc : con.arg.size < 2^26) (out : List Place) (hout : TabFit out) (x : Slot) (s : St) (i : Nat) (ha : AccR Q5 s0 s x (out.map Place.enc)) (hat : d.cons[i]? = some con) (hi : i < 2^40) :
  ((conBadR t d out con).1 ≠ 0 → ∃ s', Grew s0 s' ∧ rl0 d v x i s = some (.ret (.val (.tup [.nils, (cbad con (conBadR t d out con)).enc])), s')) ∧
  ((conBadR t d out con).1 = 0 → ∃ x' s', rl0 d v x i s = rl0 d v x' (i + 1) s' ∧ AccR Q5 s0 s' x' ((out ++ [placeR t d i con]).map Place.enc)) := by
 have hlt : i < d.cons.length := (List.getElem?_eq_some_iff.1 hat).1
 have f1 : decide ((i : Int) < (d.cons.length : Int)) = true := by simp only [decide_eq_true_eq]; omega
 have f2 : ixS 7 (.val (encS d.nb (d.cons.map Con.enc))) (.val (.int .i64 i)) = some (.val (.cp con.cells)) := Q3S (v := con.enc) (Qg _ _) (by rw [List.getElem?_map, hat]; rfl) (Con.cells_len con) (by decide)
 obtain ⟨nl, hav⟩ := ha.av
 obtain ⟨s1, e1, g1⟩ := Qb8 con.name out hout _ (Qg nl _) s
 cases hf : findD con.name out with
 | some p =>
   rw [hf] at e1
   have hb : conBadR t d out con = (9, con.name) := by simp [conBadR, hf]
   rw [hb]
   refine ⟨fun _ => ⟨s1, ha.grew.trans g1, ?_⟩, fun hx => absurd (show (9 : Int) = 0 from hx) (by decide)⟩
   simp only [Option.map_some, foundD, Place.enc, Place.cells_eq] at e1
   rw [rl0, Q3o]
   simp only [go_sem, Nat.reduceAdd, Nat.reduceLeDiff, Dec.cells_eq, List.map_cons, List.map_nil, List.length_map, f1, f2, Con.cells, Ty.cells_eq, QH hav, e1, zb, cbad, TBad.enc, TBad.cells]
 | none =>
   rw [hf] at e1
   simp only [Option.map_none, foundD, Place.enc, Place.cells_eq, Place.zero] at e1
   have hb : conBadR t d out con = bif decide (d.kind = 4) && decide (((exns t : Nat) : Int) > 1023) then (19, con.name) else argBad t d con := by
    simp only [conBadR, hf, Option.isSome_none, Bool.false_eq_true, if_false, argBad]
   obtain ⟨x2, s2, e2, a2, g2⟩ := Q69 d v hp con x (.val (.int .i64 i)) (pcells con.name d.name i d.cons.length con.has d.params [.val (.int .i64 0), .val (.int .i64 0), .val (.str []), .val .nils]) s1 (nvars d) 0 (.val .nils) s1 (AccH.nil _ _ _ _) (.refl _ _ _) (by omega)
   rw [show ((0 : Nat) : Int) = 0 from rfl] at e2
   have e3 : rl0 d v x i s = Q04 (.val v) (d.cells.map .val) zb x (.val (.int .i64 i)) (con.cells.map .val) (pcells con.name d.name i d.cons.length con.has d.params [.val (.int .i64 0), .val (.int .i64 0), .val (.str []), .val .nils]) (own14 d (.val .nils)) (.val (.int .i64 0)) s1 := by
    rw [rl0, Q3o]
    simp only [go_sem, Nat.reduceAdd, Nat.reduceLeDiff, Dec.cells_eq, List.map_cons, List.map_nil, List.length_map, f1, f2, Con.cells, Ty.cells_eq, QH hav, e1, zb, pcells, own14]
   have hcond : (decide (((nvars d : Nat) : Int) < d.params) && decide (d.kind = 3)) = false := by
    by_cases h3 : d.kind = 3
    ·simp only [nvars, decide_eq_true h3, cond_true, Bool.and_true, decide_eq_false_iff_not]; omega
    ·simp only [decide_eq_false h3, Bool.and_false]
   have hn : nvars d < 2^20 := by
    unfold nvars
    cases decide (d.kind = 3) with
    | true => simp only [cond_true]; omega
    | false => simp only [cond_false]; omega
   have ha2 := ((ha.move g1).move g2)
   by_cases h4 : d.kind = 4
   ·obtain ⟨x3, s3, e4, a4⟩ := Q6b sExn t h v hv s2
    have hlen : (dataR sExn t).length = exns t := by simp [dataR, exns]
    have hlen' : (dataR [101, 120, 110] t).length = exns t := hlen
    have ep := Q5I sExn s2
    by_cases hx : ((exns t : Nat) : Int) > 1023
    ·rw [hb, decide_eq_true h4, decide_eq_true hx]
     refine ⟨fun _ => ⟨s3, ha2.grew.trans a4.grew, ?_⟩, fun hx => absurd (show (19 : Int) = 0 from hx) (by decide)⟩
     rw [e3, e2, Q1J]
     simp only [sExn, ofTy, Ty.enc, Ty.cells_mk, List.map_nil, Zq] at e4 ep
     simp only [go_sem, Nat.reduceAdd, Nat.reduceLeDiff, Dec.cells_eq, List.map_cons, List.map_nil, hcond, decide_eq_true h4, ep, pcells, own14, e4, a4.list?, List.length_map, hlen, hlen', decide_eq_true hx, Con.cells, Ty.cells_eq, zb, cbad, TBad.enc, TBad.cells, Bool.and_self, cond_true]
    ·rw [hb, decide_eq_true h4, decide_eq_false hx]
     have e5 := Q4I t d v s0 h hv con hc sExn (exns t : Nat) 0 0 (.val (.int .i64 0)) (.val (.int .i64 0)) (.val (.str [])) (.val .nils) (ofTy sExn []) (by simp [ofTy, Ty.size, Ty.sizes]) ((ofTy sExn []).cells.map .val) rfl (by kernel_rfl) out x s3 i (ha2.move a4.grew) (by have := hout.1; omega) hi (rl0 d v x i s) ?_
     ·have hp : placeR t d i con = Place.mk con.name sExn (exns t : Nat) 0 con.has 0 (bif con.has then fnTy con.arg (ofTy sExn []) else ofTy sExn []) := by
       simp only [placeR, resR, decide_eq_true h4, cond_true]
      simp only [Bool.and_false, cond_false, hp]
      exact e5
     ·rw [e3, e2, Q1J]
      simp only [sExn, ofTy, Ty.enc, Ty.cells_mk, List.map_nil, Zq] at e4 ep
      simp only [go_sem, Nat.reduceAdd, Nat.reduceLeDiff, Dec.cells_eq, List.map_cons, List.map_nil, hcond, decide_eq_true h4, ep, pcells, own14, e4, a4.list?, List.length_map, hlen, hlen', decide_eq_false hx, Con.cells, Ty.cells_eq, sExn, ofTy, Ty.cells_mk, List.map_nil, Zq]
      rfl
   ·rw [hb, decide_eq_false h4]
    have hres : resR d = .mk 2 0 d.name (varsTy (nvars d)) true := by
     simp only [resR, decide_eq_false h4, cond_false, nvars]
     cases decide (d.kind = 3) <;> rfl
    have hvl : (varsTy (nvars d)).length = nvars d := by simp [varsTy]
    have hsz : ∀ n, Ty.sizes (varsTy n) = n := fun n => by
     induction n with
     | zero => rfl
     | succ n ih =>
       have : ∀ (a b : List Ty), Ty.sizes (a ++ b) = Ty.sizes a + Ty.sizes b := fun a b => by
        induction a with
        | nil => simp [Ty.sizes]
        | cons u a ih => simp only [List.cons_append, Ty.sizes, ih]; omega
       rw [Q6D, this, ih]; simp [tvar, Ty.sizes, Ty.size]
    have e5 := Q4I t d v s0 h hv con hc d.name i d.cons.length d.params (.val (.int .i64 0)) (.val (.int .i64 0)) (.val (.str [])) (.val .nils) (resR d) (by rw [hres]; simp only [Ty.size, hsz]; omega) (own14 d x2) rfl (by rw [hres]; exact QiL d x2 _ a2.av) out x s2 i ha2 (by have := hout.1; omega) hi (rl0 d v x i s) ?_
    ·have hp : placeR t d i con = Place.mk con.name d.name i d.cons.length con.has d.params (bif con.has then fnTy con.arg (resR d) else resR d) := by
      simp only [placeR, decide_eq_false h4, cond_false]
     simp only [Bool.false_and, cond_false, hp]
     exact e5
    ·rw [e3, e2, Q1J]
     simp only [go_sem, Nat.reduceAdd, Nat.reduceLeDiff, Dec.cells_eq, List.map_cons, List.map_nil, hcond, decide_eq_false h4]
theorem QeU (n : Nat) : Ty.sizes (varsTy n) = n := by
 have app : ∀ (a b : List Ty), Ty.sizes (a ++ b) = Ty.sizes a + Ty.sizes b := fun a b => by
  induction a with
  | nil => simp [Ty.sizes]
  | cons u a ih => simp only [List.cons_append, Ty.sizes, ih]; omega
 induction n with
 | zero => rfl
 | succ n ih => rw [Q6D, app, ih]; simp [tvar, Ty.sizes, Ty.size]
theorem QhN (hp : d.params < 2^20) : (resR d).size < 2^21 := by
 unfold resR
 cases decide (d.kind = 4) with
 | true => simp [ofTy, Ty.size, Ty.sizes]
 | false =>
   simp only [cond_false]
   cases decide (d.kind = 3) with
   | true => simp only [cond_true, Ty.size, QeU]; omega
   | false => simp [Ty.size, Ty.sizes]
theorem Q8s : ∀ l : List Ty, Ty.sizes (l.map ownTy) = Ty.sizes l
 | [] => rfl
 | t :: l => by simp only [List.map_cons, Ty.sizes, Q28, Q8s l]
theorem Qhs (a b : Ty) : (fnTy a b).size = a.size + b.size + 1 := by
 simp only [fnTy, ofTy, Ty.size, Q8s, Ty.sizes]; omega
theorem Q9g (hp : d.params < 2^20) (i : Nat) (con : Con) (hc : con.arg.size < 2^26) : (placeR t d i con).ty.size < 2^27 := by
 have := QhN d hp
 simp only [placeR]
 cases con.has with
 | true => simp only [cond_true, Qhs]; omega
 | false => simp only [cond_false]; omega
theorem TabFit.own {t : List Place} (h : TabFit t) : TabFit (t.map ownP) := ⟨by rw [List.length_map]; exact h.1, fun p hp => by
 obtain ⟨q, hq, rfl⟩ := List.mem_map.1 hp
 simp only [ownP, Q28]; exact h.2 q hq⟩
theorem Q6S (h : TabFit t) (hv : (Slot.val v).list? = some (t.map Place.enc)) (hp : d.params < 2^20) (hl : d.cons.length < 2^22) (hc : ∀ c ∈ d.cons, c.arg.size < 2^26) : ∀ (suf pre : List Con) (out : List Place) (x : Slot) (s : St) (i : Nat), pre ++ suf = d.cons → i = pre.length → TabFit out → out.length + suf.length < 2^26 → AccR Q5 s0 s x (out.map Place.enc) →
  RetT (rl0 d v x i s) s0 (consR t d suf i out)
 | [], pre, out, x, s, i, hq, hi, ho, hlen, ha => by
   subst hi
   obtain ⟨nl, hav⟩ := ha.av
   refine ⟨s, _, ?_, Qg nl _, ha.grew⟩
   have hend := Qa (show pre = d.cons by simpa using hq)
   rw [rl0, Q3o]
   simp only [go_sem, Nat.reduceAdd, Nat.reduceLeDiff, Dec.cells_eq, List.map_cons, List.map_nil, List.length_map, hend, zb, Q2U hav]
   rfl
 | con :: suf, pre, out, x, s, i, hq, hi, ho, hlen, ha => by
   have hlt : i < d.cons.length := by rw [← hq, hi]; simp
   obtain ⟨S1, S2⟩ := Qc3 t d v s0 h hv hp hl con (hc con (by rw [← hq]; simp)) out ho x s i ha (by rw [← hq, hi]; simp) (by omega)
   simp only [consR]
   by_cases hz : (conBadR t d out con).1 = 0
   ·obtain ⟨x', s', e1, a1⟩ := S2 hz
    rw [if_neg (by simpa using hz), e1]
    simp only [List.length_cons] at hlen
    refine Q6S h hv hp hl hc suf (pre ++ [con]) (out ++ [placeR t d i con]) x' s' (i + 1) (by simpa using hq) (by simp [hi]) ⟨by simp only [List.length_append, List.length_cons, List.length_nil]; omega, fun p hp' => ?_⟩ (by simp only [List.length_append, List.length_cons, List.length_nil]; omega) a1
    rcases List.mem_append.1 hp' with hp' | hp'
    ·exact ho.2 p hp'
    ·simp only [List.mem_singleton] at hp'; subst hp'
     exact Q9g t d hp i con (hc con (by rw [← hq]; simp))
   ·obtain ⟨s', g1, e1⟩ := S1 hz
    rw [if_pos (by simpa using hz)]
    exact ⟨s', .nils, e1, rfl, g1⟩
theorem Q6T (h : TabFit t) (hv : (Slot.val v).list? = some (t.map Place.enc)) (hp : d.params < 2^20) (hl : d.cons.length < 2^22) (hlen : t.length + d.cons.length < 2^26) (hc : ∀ c ∈ d.cons, c.arg.size < 2^26) (s : St) : RetT (cw (.f Zb) [v, d.enc] s) s (addR t d) := by
 have J : ∀ s1, Grew s s1 → RetT (Q11 (.val v) (d.cells.map .val) zb s1) s (consR t d d.cons 0 (t.map ownP)) := fun s1 g1 => by
  obtain ⟨x, s2, e2, a2⟩ := Q4N t h v hv s1
  have e3 := Q6S t d v s h hv hp hl hc d.cons [] (t.map ownP) x s2 0 rfl rfl h.own (by rw [List.length_map]; omega) (a2.weaken g1)
  have e4 : Q11 (.val v) (d.cells.map .val) zb s1 = rl0 d v x 0 s2 := by
   rw [Qb5]
   simp only [go_sem, e2]
   rfl
  rw [e4]; exact e3
 simp only [Dec.cells_eq, List.map_cons, List.map_nil, zb] at J
 rw [QeG]
 unfold addR
 by_cases h3 : d.kind = 3
 ·rw [decide_eq_true h3]
  obtain ⟨s1, e1, g1⟩ := Q3C d.name t h v hv s
  have e2 := Q2Q d.name s1
  cases hk : ((dtR t d.name).2 || givenR d.name) with
  | true =>
    refine ⟨s1, .nils, ?_, rfl, g1⟩
    cases hd : (dtR t d.name).2 with
    | true =>
      rw [hd] at e1
      simp only [go_sem, Int.reduceEq, Nat.reduceAdd, Nat.reduceLeDiff, Dec.enc, Dec.cells_eq, List.map_cons, List.map_nil, h3, decide_true, Int.reduceEq, decide_false, Bool.not_true, e1, TBad.enc, TBad.cells]
    | false =>
      rw [hd] at e1
      rw [hd, Bool.false_or] at hk
      rw [hk] at e2
      simp only [go_sem, Int.reduceEq, Nat.reduceAdd, Nat.reduceLeDiff, Dec.enc, Dec.cells_eq, List.map_cons, List.map_nil, h3, decide_true, Int.reduceEq, decide_false, Bool.not_true, e1, e2, TBad.enc, TBad.cells]
  | false =>
    simp only [Bool.or_eq_false_iff] at hk
    rw [hk.1] at e1
    rw [hk.2] at e2
    have j := J s1 g1
    simp only [go_sem, Int.reduceEq, Nat.reduceAdd, Nat.reduceLeDiff, Dec.enc, Dec.cells_eq, List.map_cons, List.map_nil, h3, decide_true, Int.reduceEq, decide_false, Bool.not_true, e1, e2, Bool.and_false, Bool.false_and, cond_false] at j ⊢
    exact j
 ·rw [decide_eq_false h3]
  by_cases h4 : d.kind = 4
  ·rw [decide_eq_true h4]
   have j := J s (.refl s)
   simp only [go_sem, Int.reduceEq, Nat.reduceAdd, Nat.reduceLeDiff, Dec.enc, Dec.cells_eq, List.map_cons, List.map_nil, h4, decide_true, Int.reduceEq, decide_false, Bool.not_true, Bool.not_false, Bool.and_false, Bool.false_and, cond_false] at j ⊢
   exact j
  ·rw [decide_eq_false h4]
   obtain ⟨x, s2, e2, a2⟩ := Q4N t h v hv s
   obtain ⟨nl, hav⟩ := a2.av
   refine ⟨s2, _, ?_, Qg nl _, a2.grew⟩
   simp only [go_sem, Nat.reduceAdd, Nat.reduceLeDiff, Dec.enc, Dec.cells_eq, List.map_cons, List.map_nil, decide_eq_false h3, decide_eq_false h4, e2, Q2U hav]
   rfl
end
theorem Q5H (s0 : St) (x1 x2 x3 x4 : Slot) (h1 : x1.list? = some (startD.map fun p => .str p.name)) (h2 : x2.list? = some (startD.map fun p => .str p.data)) (h3 : x3.list? = some (startD.map fun p => .int .i64 p.tag)) (h4 : x4.list? = some (startD.map fun p => .int .i64 p.of_)) : ∀ (suf pre : List Place) (x : Slot) (s : St) (i : Nat), AccR Q5 s0 s x (pre.map Place.enc) → pre ++ suf = startD → i = pre.length →
  RetA (Q14 x1 x2 x3 x4 x (.val (.int .i64 i)) s) Q5 s0 (startD.map Place.enc)
 | [], pre, x, s, i, ha, hp, hi => by
   subst hi
   have : pre = startD := by simpa using hp
   have h6 : decide ((pre.length : Int) < 6) = false := by rw [this]; rfl
   refine ⟨x, s, ?_, by rw [← this]; exact ha⟩
   rw [Q4L]; simp only [go_sem, h6]
 | p :: suf, pre, x, s, i, ha, hp, hi => by
   subst hi
   obtain ⟨f1, f2, f3⟩ := Q8 (f := fun p : Place => AV.str p.name) h1 hp (by decide) (sz := 1) rfl (by decide)
   obtain ⟨-, f4, -⟩ := Q8 (f := fun p : Place => AV.str p.data) h2 hp (by decide) (sz := 1) rfl (by decide)
   obtain ⟨-, f5, -⟩ := Q8 (f := fun p : Place => AV.int .i64 p.tag) h3 hp (by decide) (sz := 1) rfl (by decide)
   obtain ⟨-, f6, -⟩ := Q8 (f := fun p : Place => AV.int .i64 p.of_) h4 hp (by decide) (sz := 1) rfl (by decide)
   have hl6 : (startD.length : Int) = 6 := rfl
   rw [hl6] at f1
   have hpm : p ∈ startD := by rw [← hp]; simp
   have hps : p = placeD p.name p.data p.tag p.of_ := by
    simp only [startD, List.mem_cons, List.not_mem_nil, or_false] at hpm
    rcases hpm with rfl | rfl | rfl | rfl | rfl | rfl <;> rfl
   have e1 := Q5I p.data s
   obtain ⟨x', s', e2, a2⟩ := placeAcc ha p (by have : (pre ++ p :: suf).length = 6 := by rw [hp]; rfl
                                                simp only [List.length_append, List.length_cons] at this; omega)
   have ih := Q5H s0 x1 x2 x3 x4 h1 h2 h3 h4 suf (pre ++ [p]) x' s' (pre.length + 1) a2 (by simpa using hp) (by simp)
   rw [hps] at e2
   simp only [placeD, ofTy, List.map_nil, Place.enc, Place.cells, Ty.cells_mk, Zq] at e2
   simp only [ofTy, List.map_nil, Ty.enc, Ty.cells_mk, Zq] at e1
   rw [Q4L]
   simp only [go_sem, Nat.reduceAdd, Nat.reduceLeDiff, f1, f2, f3, f4, f5, f6, e1, e2]
   exact ih
theorem Qa0 (s : St) : RetA (cw (.f Q2D) [] s) Q5 s (startD.map Place.enc) := by
 have e1 := Q5H s (.full (startD.map fun p => .str p.name)) (.full (startD.map fun p => .str p.data)) (.full (startD.map fun p => .int .i64 p.tag)) (.full (startD.map fun p => .int .i64 p.of_)) rfl rfl rfl rfl startD [] (.val .nils) s 0 (AccR.nil _ _) rfl rfl
 rw [show ((0 : Nat) : Int) = 0 from rfl] at e1
 rw [Qc5]
 simp only [go_sem, Nat.reduceAdd]
 exact e1
end Go.Proofs.YtoahliipbclneaaGreat
namespace Go.Proofs.YtoahliipbclneaaGreat
open Go Go.Am
set_option linter.unusedVariables false
set_option maxRecDepth 4000
def DecFitR (d : Dec) : Prop := d.params < 2^20 ∧ ∀ c ∈ d.cons, c.arg.size < 2^26
theorem Qcq (t : List Place) (d : Dec) : ∀ (l : List Con) (i : Nat) (out : List Place), (consR t d l i out).1.length ≤ out.length + l.length
 | [], _, _ => Nat.le_refl _
 | c :: l, i, out => by
   simp only [consR]
   split
   ·simp
   ·have := Qcq t d l (i + 1) (out ++ [placeR t d i c])
    simp only [List.length_append, List.length_cons, List.length_nil] at this ⊢
    omega
theorem Qcp (t : List Place) (d : Dec) (hp : d.params < 2^20) : ∀ (l : List Con) (i : Nat) (out : List Place), (∀ c ∈ l, c.arg.size < 2^26) → (∀ p ∈ out, p.ty.size < 2^27) → ∀ p ∈ (consR t d l i out).1, p.ty.size < 2^27
 | [], _, _, _, h => h
 | c :: l, i, out, hl, h => by
   simp only [consR]
   split
   ·simp
   ·refine Qcp t d hp l _ _ (fun c hc => hl c (List.mem_cons_of_mem _ hc)) fun p hp' => ?_
    rcases List.mem_append.1 hp' with hp' | hp'
    ·exact h p hp'
    ·simp only [List.mem_singleton] at hp'; subst hp'
     exact Q9g t d hp i c (hl c List.mem_cons_self)
theorem QdM (t : List Place) (d : Dec) : (addR t d).1.length ≤ t.length + d.cons.length := by
 unfold addR
 cases (!decide (d.kind = 3) && !decide (d.kind = 4)) with
 | true => simp
 | false =>
   simp only [cond_false]
   cases (decide (d.kind = 3) && ((dtR t d.name).2 || givenR d.name)) with
   | true => simp
   | false =>
     have := Qcq t d d.cons 0 (t.map ownP)
     rw [List.length_map] at this; exact this
theorem QdL (t : List Place) (d : Dec) (hd : DecFitR d) (h : ∀ p ∈ t, p.ty.size < 2^27) : ∀ p ∈ (addR t d).1, p.ty.size < 2^27 := by
 have ho : ∀ p ∈ t.map ownP, p.ty.size < 2^27 := fun p hp => by
  obtain ⟨q, hq, rfl⟩ := List.mem_map.1 hp
  simp only [ownP, Q28]; exact h q hq
 unfold addR
 cases (!decide (d.kind = 3) && !decide (d.kind = 4)) with
 | true => exact ho
 | false =>
   simp only [cond_false]
   cases (decide (d.kind = 3) && ((dtR t d.name).2 || givenR d.name)) with
   | true => simp
   | false => exact Qcp t d hd.1 _ _ _ hd.2 ho
theorem QgC : ∀ p ∈ startD, p.ty.size < 2^27 := by
 intro p hp
 simp only [startD, List.mem_cons, List.not_mem_nil, or_false] at hp
 rcases hp with rfl | rfl | rfl | rfl | rfl | rfl <;> simp [placeD, ofTy, Ty.size, Ty.sizes]
theorem Q7G (P : List Dec) (hP : P.length < 2^40) (y : Slot) (hy : y.list? = some (P.map Dec.enc)) (s0 : St) : ∀ (suf pre : List Dec) (t : List Place) (x : Slot) (v : AV) (s : St) (i : Nat), pre ++ suf = P → i = pre.length → (∀ d ∈ suf, DecFitR d) → t.length + consOf suf < 2^22 → (∀ p ∈ t, p.ty.size < 2^27) → x.av = some v → (Slot.val v).list? = some (t.map Place.enc) → Grew s0 s →
  RetT (Q2n y zb x (.val (.int .i64 i)) s) s0 (ofR suf t)
 | [], pre, t, x, v, s, i, hp, hi, hF, hl, hw, hx, hv, g => by
   subst hi
   refine ⟨s, v, ?_, hv, g⟩
   rw [Q6U]; simp only [go_sem, Nat.reduceAdd, Nat.reduceLeDiff, hy, List.length_map, Qa (show pre = P by simpa using hp), zb, Q2U hx]
   rfl
 | d :: suf, pre, t, x, v, s, i, hp, hi, hF, hl, hw, hx, hv, g => by
   subst hi
   obtain ⟨f1, f2, f3⟩ := Q8 hy hp (by omega) (Dec.cells_len d) (by decide)
   have hf := hF d List.mem_cons_self
   simp only [consOf] at hl
   obtain ⟨s1, w, e1, hw1, g1⟩ := Q6T t d v ⟨by omega, hw⟩ hv hf.1 (by omega) (by omega) hf.2 s
   have hlen := QdM t d
   have ih := Q7G P hP y hy s0 suf (pre ++ [d]) (addR t d).1 (.val w) w s1 (pre.length + 1) (by simpa using hp) (by simp) (fun q hq => hF q (List.mem_cons_of_mem _ hq)) (by omega) (QdL t d hf hw) rfl hw1 (g.trans g1)
   rw [Q6U]
   simp only [Dec.enc, Dec.cells_eq] at e1
   simp only [ofR]
   by_cases hz : (addR t d).2.kind = 0
   ·rw [if_neg (by simpa using hz)]
    simp only [go_sem, Nat.reduceAdd, Nat.reduceLeDiff, hy, List.length_map, f1, f2, f3, Dec.cells_eq, QH hx, e1, TBad.enc, TBad.cells, List.map_cons, List.map_nil, hz, decide_true, Bool.not_true]
    exact ih
   ·rw [if_pos (by simpa using hz)]
    refine ⟨s1, .nils, ?_, rfl, g.trans g1⟩
    simp only [go_sem, Nat.reduceAdd, Nat.reduceLeDiff, hy, List.length_map, f1, f2, f3, Dec.cells_eq, QH hx, e1, TBad.enc, TBad.cells, List.map_cons, List.map_nil, decide_eq_false hz, Bool.not_false, zb]
theorem Qdq (P : List Dec) (nl : Bool) (hF : ∀ d ∈ P, DecFitR d) (hs : Dec.sizes P < 2^21) (s : St) : RetT (cw (.f Q4Y) [encS nl (P.map Dec.enc)] s) s (ofR P startD) := by
 obtain ⟨x, s1, e1, a1⟩ := Qa0 s
 obtain ⟨b, hav⟩ := a1.av
 have hl := Dec.len_sizes P
 have hc := Q81 P
 have e2 := Q7G P (by omega) (.val (encS nl (P.map Dec.enc))) (Qg _ _) s P [] startD x _ s1 0 rfl rfl hF (by simp only [startD, List.length_cons, List.length_nil]; omega) QgC hav (Qg b _) a1.grew
 rw [show ((0 : Nat) : Int) = 0 from rfl] at e2
 rw [Qfq]
 simp only [go_sem, e1, zb] at e2 ⊢
 exact e2
end Go.Proofs.YtoahliipbclneaaGreat
namespace Go.Proofs.YtoahliipbclneaaGreat
open Go Go.Am
set_option linter.unusedVariables false
set_option maxRecDepth 4000
theorem Q9Y (nd : TNode) (s : St) (h : nd.ok) : ∃ nm : Str, cw (.f Q4m) [nd.enc] s = some (.ret (.val (.tup [.int .i64 nd.wrong.1, .str nm])), s) ∧ (nd.wrong.1 = 8 → nm = nd.wrong.2) := by
 rw [Qc2]
 cases nd with
 | dec inn d =>
   have hn : d.name.length < 2^62 := by simp only [TNode.ok] at h; omega
   have hw := fun s => QbW d inn s hn
   obtain ⟨k, a, nm, p, l, nb, c, cb, f, fb⟩ := d
   simp only [go_sem, Dec.enc] at hw
   simp only [go_sem, Int.reduceEq, Nat.reduceAdd, Nat.reduceLeDiff, Nat.reduceSub, TNode.cells, hw]
   exact ⟨nm, rfl, fun _ => rfl⟩
 | exp e =>
   obtain ⟨h0, h1, h2, h3⟩ := h
   have hw := fun s => QbY e s (by omega) h1 h2 h3
   obtain ⟨k, a, nm, n, l, lb, c, cb, d, db⟩ := e
   simp only [go_sem, Exp.enc] at hw
   simp only [go_sem, Int.reduceEq, Nat.reduceAdd, Nat.reduceLeDiff, Nat.reduceSub, TNode.cells, Dec.zero, hw]
   exact ⟨nm, rfl, fun _ => rfl⟩
 | pat e =>
   obtain ⟨h0, h2, h3⟩ := h
   have hw := fun s => Qc1 e s (by omega) h2 h3
   obtain ⟨k, a, nm, n, l, lb⟩ := e
   simp only [go_sem, Pat.enc] at hw
   simp only [go_sem, Int.reduceEq, Nat.reduceAdd, Nat.reduceLeDiff, Nat.reduceSub, TNode.cells, Dec.zero, Exp.zero, hw]
   exact ⟨nm, rfl, fun _ => rfl⟩
 | ty e a =>
   have hn : e.name.length < 2^62 := by simp only [TNode.ok] at h; omega
   have hw := fun s => Qdk e s hn
   obtain ⟨k, n, nm, l, lb⟩ := e
   simp only [go_sem, Ty.enc] at hw
   simp only [go_sem, Int.reduceEq, Nat.reduceAdd, Nat.reduceLeDiff, Nat.reduceSub, TNode.cells, Dec.zero, Exp.zero, Pat.zero, hw]
   exact ⟨nm, rfl, fun _ => rfl⟩
 | fn f =>
   have hn : f.name.length < 2^62 := by simp only [TNode.ok] at h; omega
   have hw := fun s => Q0R f.name s hn
   obtain ⟨nm, a, c⟩ := f
   simp only [Fun.name, Q8n] at hw
   simp only [go_sem, Int.reduceEq, Nat.reduceAdd, Nat.reduceLeDiff, Nat.reduceSub, TNode.cells, Dec.zero, Exp.zero, Pat.zero, Ty.zero, hw]
   cases hl : lowB nm
   ·simp only [go_sem]; exact ⟨nm, by simp only [TNode.wrong, Fun.name, hl]; rfl, fun _ => rfl⟩
   ·simp only [go_sem]; exact ⟨[], by simp only [TNode.wrong, Fun.name, hl]; rfl, fun h => by simp only [TNode.wrong, Fun.name, hl] at h; cases h⟩
 | con c =>
   have hn : c.name.length < 2^62 := by simp only [TNode.ok] at h; omega
   have hw := fun s => Q48 c.name s hn
   have hz := fun s => Q8U c.arg s
   obtain ⟨nm, a, hs, arg⟩ := c
   obtain ⟨tk, tn, tnm, tl, tb⟩ := arg
   simp only [Qha] at hw
   simp only [go_sem, Ty.enc] at hz
   simp only [go_sem, Int.reduceEq, Nat.reduceAdd, Nat.reduceLeDiff, TNode.cells, Con.cells, Dec.zero, Exp.zero, Pat.zero, Ty.zero, Fun.zero, Case.zero, hw, hz]
   have hb : (!hs && !(decide (tk = 0) && decide (tn = 0) && decide (tnm = []) && decide ((tl.length : Int) = 0))) = (!hs && (!decide (tk = 0) || !decide (tn = 0) || !decide (tnm = []) || decide ((tl.length : Int) > 0))) := by
    cases hs <;> by_cases h1 : tk = 0 <;> by_cases h2 : tn = 0 <;> by_cases h3 : tnm = [] <;> cases tl <;> simp [h1, h2, h3] <;> omega
   have key : ∀ b1 b2 : Bool, ∃ nm' : Str, some (Out.ret (Slot.val (bif b1 then AV.tup [.int .i64 29, .str []] else bif !b2 then AV.tup [.int .i64 8, .str nm] else AV.tup [.int .i64 0, .str []])), s) = some (Out.ret (Slot.val (.tup [.int .i64 (bif b1 then 29 else bif !b2 then 8 else 0), .str nm'])), s) ∧ ((bif b1 then (29 : Int) else bif !b2 then 8 else 0) = 8 → nm' = nm) := by
    intro b1 b2
    cases b1 <;> cases b2
    ·exact ⟨nm, rfl, fun _ => rfl⟩
    ·exact ⟨[], rfl, fun h => by cases h⟩
    ·exact ⟨[], rfl, fun h => by cases h⟩
    ·exact ⟨[], rfl, fun h => by cases h⟩
   obtain ⟨nm', e1, e2⟩ := key (!hs && !(decide (tk = 0) && decide (tn = 0) && decide (tnm = []) && decide ((tl.length : Int) = 0))) (capB nm)
   have hw2 : (TNode.con ⟨nm, a, hs, .mk tk tn tnm tl tb⟩).wrong = (bif (!hs && !(decide (tk = 0) && decide (tn = 0) && decide (tnm = []) && decide ((tl.length : Int) = 0))) then 29 else bif !capB nm then 8 else 0, nm) := by
    rw [hb]; rfl
   rw [hw2]
   exact ⟨nm', e1, e2⟩
end Go.Proofs.YtoahliipbclneaaGreat
namespace Go.Proofs.YtoahliipbclneaaGreat
open Go Go.Am
set_option linter.unusedVariables false
set_option maxRecDepth 4000
theorem Q4E (t : Ty) (hl : t.args.length < 2^40) : ∀ (suf pre : List Ty) (n : Int) (s : St) (i : Nat), pre ++ suf = t.args → i = pre.length → (∀ t ∈ suf, ∀ s, cw (.f ZS) [t.enc] s = some (.ret (.val (.int .i64 (deepTy t))), s)) → 0 ≤ n → n < 2^40 → Ty.sizes suf < 2^40 →
  Q0s (t.cells.map .val) (.val (.int .i64 n)) (.val (.int .i64 i)) s = some (.ret (.val (.int .i64 (deepTys suf n + 1))), s)
 | [], pre, n, s, i, h, hi, H, h0, h1, h2 => by
   subst hi
   rw [Q4e]; simp only [go_sem, Nat.reduceAdd, Nat.reduceLeDiff, Ty.cells_eq, Qa (by simpa using h)]
   rw [wrap64 (by omega) (by omega)]; rfl
 | u :: suf, pre, n, s, i, h, hi, H, h0, h1, h2 => by
   subst hi
   obtain ⟨f1, f2, f3⟩ := Q8 (x := .val (encS t.nl (t.args.map Ty.enc))) (Qg _ _) h (by omega) (Ty.cells_len u) (by decide)
   have ht := Q2V u
   have hm := QG n (deepTy u) (2^40 - 1)
   have hn := QF n (deepTy u)
   simp only [Ty.sizes] at h2
   have := Q4E t hl suf (pre ++ [u]) (maxI n (deepTy u)) s (pre.length + 1) (by simpa using h) (by simp) (fun w hw => H w (List.mem_cons_of_mem _ hw)) (by omega) (by omega) (by omega)
   rw [Q4e]; rw [Ty.cells_eq] at this ⊢; simp only [go_sem, Nat.reduceAdd, Nat.reduceLeDiff, f1, f2, f3, H u (List.mem_cons_self)] at this ⊢
   exact this
theorem Q4F : ∀ (m : Nat) (t : Ty) (s : St), t.size ≤ m → t.size < 2^40 → cw (.f ZS) [t.enc] s = some (.ret (.val (.int .i64 (deepTy t))), s)
 | 0, .mk _ _ _ _ _, _, h, _ => by simp only [Ty.size] at h; omega
 | m + 1, .mk k n nm l nl, s, h, h' => by
   simp only [Ty.size] at h h'
   have hl := Ty.len_sizes l
   have := Q4E (.mk k n nm l nl) (by simp only [Ty.args]; omega) l [] 0 s 0 rfl rfl (fun u hu s => by have := Ty.mem_sizes hu; exact Q4F m u s (by omega) (by omega)) (by decide) (by decide) (by omega)
   rw [Qb0]; simp only [go_sem, Nat.reduceAdd, Ty.enc] at this ⊢
   exact this
theorem Q4d (t : Pat) (hl : t.kids.length < 2^40) : ∀ (suf pre : List Pat) (n : Int) (s : St) (i : Nat), pre ++ suf = t.kids → i = pre.length → (∀ t ∈ suf, ∀ s, cw (.f QW) [t.enc] s = some (.ret (.val (.int .i64 (deepPat t))), s)) → 0 ≤ n → n < 2^40 → Pat.sizes suf < 2^40 →
  Q03 (t.cells.map .val) (.val (.int .i64 n)) (.val (.int .i64 i)) s = some (.ret (.val (.int .i64 (deepPats suf n + 1))), s)
 | [], pre, n, s, i, h, hi, H, h0, h1, h2 => by
   subst hi
   rw [Q3B]; simp only [go_sem, Nat.reduceAdd, Nat.reduceLeDiff, Pat.cells_eq, Qa (by simpa using h)]
   rw [wrap64 (by omega) (by omega)]; rfl
 | u :: suf, pre, n, s, i, h, hi, H, h0, h1, h2 => by
   subst hi
   obtain ⟨f1, f2, f3⟩ := Q8 (x := .val (encS t.kb (t.kids.map Pat.enc))) (Qg _ _) h (by omega) (Pat.cells_len u) (by decide)
   have ht := ZM u
   have hm := QG n (deepPat u) (2^40 - 1)
   have hn := QF n (deepPat u)
   simp only [Pat.sizes] at h2
   have := Q4d t hl suf (pre ++ [u]) (maxI n (deepPat u)) s (pre.length + 1) (by simpa using h) (by simp) (fun w hw => H w (List.mem_cons_of_mem _ hw)) (by omega) (by omega) (by omega)
   rw [Q3B]; rw [Pat.cells_eq] at this ⊢; simp only [go_sem, Nat.reduceAdd, Nat.reduceLeDiff, f1, f2, f3, H u (List.mem_cons_self)] at this ⊢
   exact this
theorem Q0r : ∀ (m : Nat) (t : Pat) (s : St), t.size ≤ m → t.size < 2^40 → cw (.f QW) [t.enc] s = some (.ret (.val (.int .i64 (deepPat t))), s)
 | 0, .mk _ _ _ _ _ _, _, h, _ => by simp only [Pat.size] at h; omega
 | m + 1, .mk k a nm n l nl, s, h, h' => by
   simp only [Pat.size] at h h'
   have hl := Pat.len_sizes l
   have := Q4d (.mk k a nm n l nl) (by simp only [Pat.kids]; omega) l [] 0 s 0 rfl rfl (fun u hu s => by have := Pat.mem_sizes hu; exact Q0r m u s (by omega) (by omega)) (by decide) (by decide) (by omega)
   rw [Q9U]; simp only [go_sem, Nat.reduceAdd, Pat.enc] at this ⊢
   exact this
def rdeepExpOK (t : Exp) : Prop := ∀ s, cw (.f QV) [t.enc] s = some (.ret (.val (.int .i64 (deepExp t))), s)
def rdeepDecsOK (l : List Dec) : Prop := ∀ (v : AV) (s : St), (Slot.val v).list? = some (l.map Dec.enc) → cw (.f Zd) [v] s = some (.ret (.val (.int .i64 (deepDecs l 0))), s)
theorem Q2Y (t : Exp) (hl : t.cases.length < 2^40) : ∀ (suf pre : List Case) (n : Int) (s : St) (i : Nat), pre ++ suf = t.cases → i = pre.length → (∀ c ∈ suf, rdeepExpOK c.exp) → 0 ≤ n → n < 2^40 → Case.sizes suf < 2^40 →
  Q02 (t.cells.map .val) (.val (.int .i64 n)) (.val (.int .i64 i)) s = some (.ret (.val (.int .i64 (deepCases suf n + 1))), s)
 | [], pre, n, s, i, h, hi, H, h0, h1, h2 => by
   subst hi
   rw [Q3v]; simp only [go_sem, Exp.cells_eq, Qa (by simpa using h)]
   rw [wrap64 (by omega) (by omega)]; rfl
 | .mk p e :: suf, pre, n, s, i, h, hi, H, h0, h1, h2 => by
   subst hi
   obtain ⟨f1, f2, f3⟩ := Q8 (x := .val (encS t.cb (t.cases.map Case.enc))) (Qg _ _) h (by omega) (Case.cells_len (.mk p e)) (by decide)
   have ht := ZL e
   have hp := ZM p
   simp only [Case.sizes, Case.size] at h2
   have h4 := QF n (deepPat p)
   have h5 := QF (maxI n (deepPat p)) (deepExp e)
   have h6 := QG n (deepPat p) (2^40 - 1) (by omega) (by omega)
   have h7 := QG (maxI n (deepPat p)) (deepExp e) (2^40 - 1) (by omega) (by omega)
   have He : rdeepExpOK e := H (.mk p e) (List.mem_cons_self)
   have := Q2Y t hl suf (pre ++ [.mk p e]) (maxI (maxI n (deepPat p)) (deepExp e)) s (pre.length + 1) (by simpa using h) (by simp) (fun w hw => H w (List.mem_cons_of_mem _ hw)) (by omega) (by omega) (by omega)
   rw [Q3v]; rw [Exp.cells_eq] at this ⊢; simp only [go_sem, Nat.reduceLeDiff, Nat.reduceSub, f1, f2, f3, Q0r _ p _ (Nat.le_refl _) (show p.size < 2^40 by omega), He s] at this ⊢
   exact this
theorem Q2X (t : Exp) (hl : t.kids.length < 2^40) (hl2 : t.cases.length < 2^40) (hc : Case.sizes t.cases < 2^40) (Hc : ∀ c ∈ t.cases, rdeepExpOK c.exp) : ∀ (suf pre : List Exp) (n : Int) (s : St) (i : Nat), pre ++ suf = t.kids → i = pre.length → (∀ c ∈ suf, rdeepExpOK c) → 0 ≤ n → n < 2^40 → Exp.sizes suf < 2^40 →
  Q01 (t.cells.map .val) (.val (.int .i64 n)) (.val (.int .i64 i)) s = some (.ret (.val (.int .i64 (deepCases t.cases (deepExps suf n) + 1))), s)
 | [], pre, n, s, i, h, hi, H, h0, h1, h2 => by
   subst hi
   have := Q2Y t hl2 t.cases [] n s 0 rfl rfl Hc h0 h1 hc
   rw [Q3u]; rw [Exp.cells_eq] at this ⊢; simp only [go_sem, Qa (by simpa using h)] at this ⊢
   exact this
 | e :: suf, pre, n, s, i, h, hi, H, h0, h1, h2 => by
   subst hi
   obtain ⟨f1, f2, f3⟩ := Q8 (x := .val (encS t.kb (t.kids.map Exp.enc))) (Qg _ _) h (by omega) (Exp.cells_len e) (by decide)
   have ht := ZL e
   simp only [Exp.sizes] at h2
   have h4 := QF n (deepExp e)
   have h6 := QG n (deepExp e) (2^40 - 1) (by omega) (by omega)
   have He : rdeepExpOK e := H e (List.mem_cons_self)
   have := Q2X t hl hl2 hc Hc suf (pre ++ [e]) (maxI n (deepExp e)) s (pre.length + 1) (by simpa using h) (by simp) (fun w hw => H w (List.mem_cons_of_mem _ hw)) (by omega) (by omega) (by omega)
   rw [Q3u]; rw [Exp.cells_eq] at this ⊢; simp only [go_sem, Nat.reduceLeDiff, f1, f2, f3, He s] at this ⊢
   exact this
theorem Q1U (d : Dec) (x0 : Slot) (j : Nat) (fx : ixS 7 x0 (.val (.int .i64 (j : Int))) = some (.val (.cp d.cells))) (n0 : Int) (hj : j < 2^40) (hl : d.cons.length < 2^40) : ∀ (suf pre : List Con) (n : Int) (s : St) (i : Nat), pre ++ suf = d.cons → i = pre.length → 0 ≤ n → n < 2^40 → Con.sizes suf < 2^40 →
  Q0e x0 (.val (.int .i64 n0)) (.val (.int .i64 j)) (.val (.int .i64 n)) (.val (.int .i64 i)) s = Zl x0 (.val (.int .i64 (maxI n0 (deepCons suf n + 1)))) (.val (.int .i64 (j + 1 : Nat))) s
 | [], pre, n, s, i, h, hi, h0, h1, h2 => by
   subst hi
   rw [Q5v]; simp only [go_sem, fx, Dec.cells_eq, Qa (by simpa using h)]
   rw [wrap64 (n := n + 1) (by omega) (by omega), wrap64 (by omega) (by omega)]; rfl
 | c :: suf, pre, n, s, i, h, hi, h0, h1, h2 => by
   subst hi
   obtain ⟨f1, f2, f3⟩ := Q8 (x := .val (encS d.nb (d.cons.map Con.enc))) (Qg _ _) h (by omega) (Con.cells_len c) (by decide)
   have ht := Q2V c.arg
   simp only [Con.sizes, Con.size] at h2
   have hm := QG n (deepTy c.arg) (2^40 - 1)
   have hn := QF n (deepTy c.arg)
   obtain ⟨nm, a, hs, arg⟩ := c
   dsimp only at ht hm hn h2
   rw [Q5v]; simp only [go_sem, Nat.reduceLeDiff, fx, Dec.cells_eq, f1, f2, f3, Con.cells]
   cases hs with
   | false =>
     simp only [go_sem]
     exact Q1U d x0 j fx n0 hj hl suf (pre ++ [_]) n s _ (by simpa using h) (by simp) (by omega) (by omega) (by omega)
   | true =>
     simp only [go_sem, Q4F _ arg _ (Nat.le_refl _) (show arg.size < 2^40 by omega)]
     exact Q1U d x0 j fx n0 hj hl suf (pre ++ [_]) _ s _ (by simpa using h) (by simp) (by omega) (by omega) (by omega)
theorem Q4b (d : Dec) (x0 : Slot) (j : Nat) (fx : ixS 7 x0 (.val (.int .i64 (j : Int))) = some (.val (.cp d.cells))) (n0 : Int) (hj : j < 2^40) (hl : d.funs.length < 2^40) (hl3 : d.cons.length < 2^40) (hc : Con.sizes d.cons < 2^40) : ∀ (suf pre : List Fun) (n : Int) (s : St) (i : Nat), pre ++ suf = d.funs → i = pre.length → (∀ f ∈ suf, rdeepExpOK f.case.exp) → 0 ≤ n → n < 2^40 → Fun.sizes suf < 2^40 →
  Q1p x0 (.val (.int .i64 n0)) (.val (.int .i64 j)) (.val (.int .i64 n)) (.val (.int .i64 i)) s = Zl x0 (.val (.int .i64 (maxI n0 (deepCons d.cons (deepFuns suf n) + 1)))) (.val (.int .i64 (j + 1 : Nat))) s
 | [], pre, n, s, i, h, hi, H, h0, h1, h2 => by
   subst hi
   have := Q1U d x0 j fx n0 hj hl3 d.cons [] n s 0 rfl rfl h0 h1 hc
   rw [Q5u]; simp only [go_sem, Nat.reduceAdd, Nat.reduceLeDiff, fx, Dec.cells_eq, Qa (by simpa using h)]
   exact this
 | .mk nm a (.mk p e) :: suf, pre, n, s, i, h, hi, H, h0, h1, h2 => by
   subst hi
   obtain ⟨f1, f2, f3⟩ := Q8 (x := .val (encS d.fb (d.funs.map Fun.enc))) (Qg _ _) h (by omega) (Fun.cells_len (.mk nm a (.mk p e))) (by decide)
   have ht := ZL e
   have hp := ZM p
   simp only [Fun.sizes, Fun.size, Case.size] at h2
   have h4 := QF n (deepPat p)
   have h5 := QF (maxI n (deepPat p)) (deepExp e)
   have h6 := QG n (deepPat p) (2^40 - 1) (by omega) (by omega)
   have h7 := QG (maxI n (deepPat p)) (deepExp e) (2^40 - 1) (by omega) (by omega)
   have ha := Qe2 (.mk p e) n h0
   simp only [Case.pat, Case.exp] at ha
   have He : rdeepExpOK e := H (.mk nm a (.mk p e)) (List.mem_cons_self)
   have := Q4b d x0 j fx n0 hj hl hl3 hc suf (pre ++ [_]) (maxI (maxI n (deepPat p)) (deepExp e)) s (pre.length + 1) (by simpa using h) (by simp) (fun w hw => H w (List.mem_cons_of_mem _ hw)) (by omega) (by omega) (by omega)
   rw [Q5u]; simp only [go_sem, Nat.reduceAdd, Nat.reduceLeDiff, Nat.reduceSub, fx, Dec.cells_eq, f1, f2, f3, Q0r _ p _ (Nat.le_refl _) (show p.size < 2^40 by omega), He s]
   simp only [deepFuns]
   rw [← ha]
   exact this
theorem Q4a (d : Dec) (x0 : Slot) (j : Nat) (fx : ixS 7 x0 (.val (.int .i64 (j : Int))) = some (.val (.cp d.cells))) (n0 : Int) (hj : j < 2^40) (hl : d.case.length < 2^40) (hl2 : d.funs.length < 2^40) (hl3 : d.cons.length < 2^40) (hc : Con.sizes d.cons < 2^40) (hf : Fun.sizes d.funs < 2^40) (HF : ∀ f ∈ d.funs, rdeepExpOK f.case.exp) : ∀ (suf pre : List Case) (n : Int) (s : St) (i : Nat), pre ++ suf = d.case → i = pre.length → (∀ f ∈ suf, rdeepExpOK f.exp) → 0 ≤ n → n < 2^40 → Case.sizes suf < 2^40 →
  Q1o x0 (.val (.int .i64 n0)) (.val (.int .i64 j)) (.val (.int .i64 n)) (.val (.int .i64 i)) s = Zl x0 (.val (.int .i64 (maxI n0 (deepCons d.cons (deepFuns d.funs (deepCases suf n)) + 1)))) (.val (.int .i64 (j + 1 : Nat))) s
 | [], pre, n, s, i, h, hi, H, h0, h1, h2 => by
   subst hi
   have := Q4b d x0 j fx n0 hj hl2 hl3 hc d.funs [] n s 0 rfl rfl HF h0 h1 hf
   rw [Q5t]; simp only [go_sem, fx, Dec.cells_eq, Qa (by simpa using h)]
   exact this
 | .mk p e :: suf, pre, n, s, i, h, hi, H, h0, h1, h2 => by
   subst hi
   obtain ⟨f1, f2, f3⟩ := Q8 (x := .val (encS d.cb (d.case.map Case.enc))) (Qg _ _) h (by omega) (Case.cells_len (.mk p e)) (by decide)
   have ht := ZL e
   have hp := ZM p
   simp only [Case.sizes, Case.size] at h2
   have h4 := QF n (deepPat p)
   have h5 := QF (maxI n (deepPat p)) (deepExp e)
   have h6 := QG n (deepPat p) (2^40 - 1) (by omega) (by omega)
   have h7 := QG (maxI n (deepPat p)) (deepExp e) (2^40 - 1) (by omega) (by omega)
   have He : rdeepExpOK e := H (.mk p e) (List.mem_cons_self)
   have := Q4a d x0 j fx n0 hj hl hl2 hl3 hc hf HF suf (pre ++ [_]) (maxI (maxI n (deepPat p)) (deepExp e)) s (pre.length + 1) (by simpa using h) (by simp) (fun w hw => H w (List.mem_cons_of_mem _ hw)) (by omega) (by omega) (by omega)
   rw [Q5t]; simp only [go_sem, Nat.reduceLeDiff, Nat.reduceSub, fx, Dec.cells_eq, f1, f2, f3, Q0r _ p _ (Nat.le_refl _) (show p.size < 2^40 by omega), He s]
   exact this
theorem Q3m (L : List Dec) (x : Slot) (hx : x.list? = some (L.map Dec.enc)) (hl : L.length < 2^40) : ∀ (suf pre : List Dec) (n : Int) (s : St) (i : Nat), pre ++ suf = L → i = pre.length → (∀ d ∈ suf, (∀ c ∈ d.case, rdeepExpOK c.exp) ∧ ∀ f ∈ d.funs, rdeepExpOK f.case.exp) → 0 ≤ n → n < 2^40 → Dec.sizes suf < 2^40 →
  Zl x (.val (.int .i64 n)) (.val (.int .i64 i)) s = some (.ret (.val (.int .i64 (deepDecs suf n))), s)
 | [], pre, n, s, i, h, hi, H, h0, h1, h2 => by
   subst hi
   rw [Q5s]; simp only [go_sem, hx, Qa (by simpa using h)]; rfl
 | .mk k a nm p l nb c cb f fb :: suf, pre, n, s, i, h, hi, H, h0, h1, h2 => by
   subst hi
   obtain ⟨f1, f2, f3⟩ := Q8 hx h (by omega) (Dec.cells_len (.mk k a nm p l nb c cb f fb)) (by decide)
   obtain ⟨hC, hF⟩ := H (.mk k a nm p l nb c cb f fb) (List.mem_cons_self)
   simp only [Dec.sizes, Dec.size] at h2
   have g1 := ZZ c 0
   have g2 := Q1B f (deepCases c 0)
   have g3 := Q2j l (deepFuns f (deepCases c 0))
   have g5 := QF n (deepCons l (deepFuns f (deepCases c 0)) + 1)
   have g6 := QG n (deepCons l (deepFuns f (deepCases c 0)) + 1) (2^40 - 1) (by omega) (by omega)
   have g7 := Fun.len_sizes f
   have g8 := Case.len_sizes c
   have g9 := Con.len_sizes l
   have hlen : pre.length < L.length := by rw [← h]; simp
   have := Q4a (.mk k a nm p l nb c cb f fb) x pre.length f2 n (by omega) (by simp only [Dec.case]; omega) (by simp only [Dec.funs]; omega) (by simp only [Dec.cons]; omega) (by simp only [Dec.cons]; omega) (by simp only [Dec.funs]; omega) hF c [] 0 s 0 rfl rfl hC (by decide) (by decide) (by omega)
   rw [show ((0 : Nat) : Int) = 0 from rfl] at this
   rw [Q5s]; simp only [go_sem, hx, f1, f2, this]
   exact Q3m L x hx hl suf (pre ++ [_]) _ s _ (by simpa using h) (by simp) (fun u hu => H u (List.mem_cons_of_mem _ hu)) (by simp only [Dec.cons, Dec.funs]; omega) (by simp only [Dec.cons, Dec.funs]; omega) (by omega)
theorem QbX : ∀ m : Nat, (∀ e : Exp, e.size ≤ m → e.size < 2^40 → rdeepExpOK e) ∧ (∀ l : List Dec, Dec.sizes l ≤ m → Dec.sizes l < 2^40 → rdeepDecsOK l) := by
 intro m
 induction m with
 | zero =>
   refine ⟨fun e h _ => ?_, fun l h _ v s hv => ?_⟩
   ·obtain ⟨k, a, nm, n, l, lb, c, cb, d, db⟩ := e
    simp only [Exp.size] at h; omega
   ·cases l with
    | cons c l => obtain ⟨k, a, nm, p, l, nb, c, cb, f, fb⟩ := c; simp only [Dec.sizes, Dec.size] at h; omega
    | nil =>
      rw [Q7E]
      exact Q3m [] _ hv (by decide) [] [] 0 s 0 rfl rfl (by simp) (by decide) (by decide) (by simp only [Dec.sizes]; decide)
 | succ m ih =>
   obtain ⟨ihE, ihD⟩ := ih
   have hcase : ∀ (c : List Case), Case.sizes c ≤ m + 1 → Case.sizes c < 2^40 → ∀ t ∈ c, rdeepExpOK t.exp := fun c h h' t ht => by
    have := Case.mem_sizes ht
    obtain ⟨p, e⟩ := t
    simp only [Case.size] at this
    exact ihE e (by omega) (by omega)
   refine ⟨fun e h h' s => ?_, fun l h h' v s hv => ?_⟩
   ·obtain ⟨k, a, nm, n, l, lb, c, cb, d, db⟩ := e
    simp only [Exp.size] at h h'
    have hl := Exp.len_sizes l
    have hl2 := Case.len_sizes c
    have g1 := Q1A d 0
    have hD := fun s => ihD d (by omega) (by omega) (encS db (d.map Dec.enc)) s (by simp only [go_sem])
    have := Q2X (.mk k a nm n l lb c cb d db) (by simp only [Exp.kids]; omega) (by simp only [Exp.cases]; omega) (by simp only [Exp.cases]; omega) (hcase c (by omega) (by omega)) l [] (deepDecs d 0) s 0 rfl rfl (fun t ht => ihE t (by have := Exp.mem_sizes ht; omega) (by have := Exp.mem_sizes ht; omega)) (by omega) (by omega) (by omega)
    rw [Q9P]; simp only [go_sem, Nat.reduceAdd, Nat.reduceLeDiff, Exp.enc, hD] at this ⊢
    rw [show ((0 : Nat) : Int) = 0 from rfl] at this
    rw [this]
    simp only [Exp.cases, deepExp]
    rw [Qfc]
   ·have := Dec.len_sizes l
    rw [Q7E]
    refine Q3m l _ hv (by omega) l [] 0 s 0 rfl rfl (fun t ht => ?_) (by decide) (by decide) h'
    have h1 := Dec.mem_sizes ht
    obtain ⟨k, a, nm, p, l, nb, c, cb, f, fb⟩ := t
    simp only [Dec.size] at h1
    refine ⟨hcase c (by omega) (by omega), fun g hg => ?_⟩
    have h2 := Fun.mem_sizes hg
    obtain ⟨nm, a, ⟨p, e⟩⟩ := g
    simp only [Dec.funs, Fun.size, Case.size] at h2
    exact ihE e (by omega) (by omega)
theorem QaW (l : List Dec) (nl : Bool) (s : St) (h : Dec.sizes l < 2^40) : cw (.f Zd) [encS nl (l.map Dec.enc)] s = some (.ret (.val (.int .i64 (deepDecs l 0))), s) := (QbX (Dec.sizes l)).2 l (Nat.le_refl _) h _ s (by simp only [go_sem])
end Go.Proofs.YtoahliipbclneaaGreat
namespace Go.Proofs.YtoahliipbclneaaGreat
open Go Go.Am
set_option linter.unusedVariables false
set_option maxRecDepth 4000
theorem Q2O (L : List TNode) (z : Slot) (hz : z.list? = some (L.map TNode.enc)) (hl : L.length < 2^40) : ∀ (suf pre : List TNode) (n : Nat) (s : St) (i : Nat), pre ++ suf = L → i = pre.length → n + suf.length < 2^40 →
  ZY z (.val (.int .i64 n)) (.val (.int .i64 i)) s = some (.ret (.val (.int .i64 (n + countN suf : Nat))), s)
 | [], pre, n, s, i, h, hi, hb => by
   subst hi
   rw [Q4D]; simp only [go_sem, hz, Qa (by simpa using h)]; rfl
 | u :: suf, pre, n, s, i, h, hi, hb => by
   subst hi
   obtain ⟨f1, f2, f3⟩ := Q8 hz h (by omega) (TNode.cells_len u) (by decide)
   have hw : IntKind.i64.wrap ((n : Int) + 1) = ((n + 1 : Nat) : Int) := by rw [wrap64 (by omega) (by omega)]; rfl
   simp only [List.length_cons] at hb
   rw [TNode.enc, Q0l, TNode.cells_3] at f2
   have h1 := Q2O L z hz hl suf (pre ++ [u]) n s (pre.length + 1) (by simpa using h) (by simp) (by omega)
   have h2 := Q2O L z hz hl suf (pre ++ [u]) (n + 1) s (pre.length + 1) (by simpa using h) (by simp) (by omega)
   rw [Q4D]; simp only [go_sem, hz, f1, f2, f3, TNode.what_isNode, hw, h1, h2]
   cases hu : u.isNode
   ·have e : countN (u :: suf) = countN suf := by simp [countN, hu]
    simp only [go_sem, e]
   ·have e : countN (u :: suf) = countN suf + 1 := by simp [countN, hu]
    simp only [go_sem, e]
    rw [show n + 1 + countN suf = n + (countN suf + 1) by omega]
theorem Q9T (l : List TNode) (v : AV) (hv : (Slot.val v).list? = some (l.map TNode.enc)) (s : St) (h : l.length < 2^39) : cw (.f Q2A) [v] s = some (.ret (.val (.int .i64 (countN l))), s) := by
 rw [QbV]
 have := Q2O l (.val v) hv (by omega) l [] 0 s 0 rfl rfl (by omega)
 rw [Nat.zero_add] at this
 exact this
theorem Q5A (L : List TNode) (z : Slot) (hz : z.list? = some (L.map TNode.enc)) (hl : L.length < 2^40) : ∀ (suf pre : List TNode) (s : St) (i : Nat), pre ++ suf = L → i = pre.length → (∀ n ∈ suf, n.ok) →
  Q10 z [.val (.int .i64 0), .val (.int .i64 0), .val (.str [])] (.val (.int .i64 i)) s = some (.ret (.val (firstBad suf).enc), s)
 | [], pre, s, i, h, hi, H => by
   subst hi
   rw [Q4G]; simp only [go_sem, Nat.reduceAdd, Nat.reduceLeDiff, hz, Qa (by simpa using h)]; rfl
 | u :: suf, pre, s, i, h, hi, H => by
   subst hi
   obtain ⟨f1, f2, f3⟩ := Q8 hz h (by omega) (TNode.cells_len u) (by decide)
   obtain ⟨nm, e1, e2⟩ := Q9Y u s (H u (List.mem_cons_self))
   have ih := Q5A L z hz hl suf (pre ++ [u]) s (pre.length + 1) (by simpa using h) (by simp) (fun w hw => H w (List.mem_cons_of_mem _ hw))
   have f2' := f2
   rw [TNode.enc, Q0l, TNode.cells_3] at f2'
   have hj : ∀ (e : Int) (nm : Str), Q0Z z [.val (.int .i64 0), .val (.int .i64 0), .val (.str [])] (.val (.int .i64 pre.length)) (.val (.int .i64 e)) (.val (.str nm)) s = some (.ret (.val (TBad.mk e u.at_ nm).enc), s) := fun e nm => by
    rw [Q8R]; simp only [go_sem, Nat.reduceAdd, Nat.reduceLeDiff, f2']; rfl
   rw [Q4G]; simp only [go_sem, Nat.reduceAdd, Nat.reduceLeDiff, hz, f1, f2, f3, e1, ih, hj]
   by_cases h0 : u.wrong.1 = 0
   ·simp only [go_sem, Int.reduceEq, h0, firstBad, TNode.bad, mkBad, TBad.zero]
   ·have hk : decide (u.bad.kind = 0) = false := by simp [TNode.bad, mkBad, h0]
    by_cases h8 : u.wrong.1 = 8
    ·have := e2 h8
     subst this
     simp only [go_sem, Int.reduceEq, h8, firstBad, hk]
     simp only [TNode.bad, h8]; rfl
    ·simp only [go_sem, decide_eq_false h0, decide_eq_false h8, firstBad, hk]
     simp only [TNode.bad, mkBad, decide_eq_false h0, decide_eq_false h8]; rfl
theorem Q9V (l : List TNode) (v : AV) (hv : (Slot.val v).list? = some (l.map TNode.enc)) (deep : Int) (s : St) (h : l.length < 2^39) (H : ∀ n ∈ l, n.ok) : cw (.f Q1j) [v, .int .i64 deep] s = some (.ret (.val (rightN l deep).enc), s) := by
 have h1 := Q9T l v hv s h
 have h2 := Q5A l (.val v) hv (by omega) l [] s 0 rfl rfl H
 rw [show ((0 : Nat) : Int) = 0 from rfl] at h2
 rw [QbZ]; simp only [go_sem, Nat.reduceAdd, Nat.reduceLeDiff, h1, h2]
 have e : decide ((countN l : Int) > 8192) = decide (countN l > 8192) := by simp only [gt_iff_lt]; congr 1; rw [eq_iff_iff]; omega
 rw [e]
 unfold rightN
 cases decide (countN l > 8192) <;> cases decide (deep > 100) <;> rfl
theorem Q5z (l : List Dec) (nl : Bool) (s : St) (h : Dec.sizes l < 2^26) (H : ∀ n ∈ nodesDecs false l, n.ok) : Ret (cw (.f Q2y) [encS nl (l.map Dec.enc)] s) s (rightN (nodesDecs false l) (deepDecs l 0)).enc := by
 obtain ⟨x, s1, e1, g1⟩ := Qdh l nl s h
 have hlen := Q2H false l
 obtain ⟨b, hb⟩ := g1.av
 have h2 := QaW l nl s1 (by omega)
 have h3 := Q9V (nodesDecs false l) (encS b ((nodesDecs false l).map TNode.enc)) (by simp only [go_sem]) (deepDecs l 0) s1 (by omega) H
 rw [QbS]; simp only [go_sem, e1, h2, QH hb, h3]
 exact Ret.mk g1.grew
end Go.Proofs.YtoahliipbclneaaGreat
namespace Go.Proofs.YtoahliipbclneaaGreat
open Go Go.Am
set_option linter.unusedVariables false
theorem Qgj {P : List Dec} (hs : Dec.sizes P < 2^24) (h : rightN (nodesDecs false P) (deepDecs P 0) = .zero) : ∀ d ∈ P, DecFitR d := by
 intro d hd
 have hw : wrongDecB d false = 0 := Q6y h _ (Q4p hd)
 have D := QdU hw
 have hsz := Dec.mem_sizes hd
 constructor
 ·by_cases h3 : d.kind = 3
  ·have := (D.data h3).2.2.2.1; omega
  ·have := (D.bare h3).1; omega
 ·intro c hc
  have h1 := Con.mem_sizes hc
  have h2 : Con.sizes d.cons ≤ d.size := by
   cases d; simp only [Dec.size, Dec.cons]; omega
  simp only [Con.size] at h1
  omega
end Go.Proofs.YtoahliipbclneaaGreat