/- A part of the proof: SRef11b, SRef11c, PRef12, SRef12, PRN, SRef12b. -/
import Derived.Test.YtinphnakebeloaaGreatM12
import Derived.Test.YtinphnakebeloaaGreatM13
import Derived.Test.YtinphnakebeloaaGreatM14
set_option linter.unusedVariables false
set_option linter.unusedSimpArgs false
namespace Go.Proofs.YtinphnakebeloaaGreat
open Go Go.Am
set_option linter.unusedVariables false
set_option maxRecDepth 4000
theorem Q8s (i : Nat) : varsTy (i + 1) = varsTy i ++ [tvar (i : Int)] := by simp [varsTy, List.range_succ]
section
variable (t : List Place) (d : Dec) (v : AV) (s0 : St)
def cbad (c : Con) (e : Int × Str) : TBad := ⟨e.1, c.at_, e.2⟩
theorem Q7O (h : TabFit t) (hv : (Slot.val v).list? = some (t.map Place.enc)) (c : Con) (L : List Ty) (y : Slot) (hy : y.list? = some (L.map tnd)) (hL : L.length < 2^40) (x8 x9 : Slot) (x13 x14 : List Slot) : ∀ (suf pre : List Ty) (s : St) (i : Nat), pre ++ suf = L → i = pre.length → Grew s0 s →
  ∃ s', Grew s s' ∧ Q0G (.val v) (d.cells.map .val) zb x8 x9 (c.cells.map .val) x13 x14 y (.val (.int .i64 i)) s =
    (if (firstW t d suf).1 ≠ 0 then some (.ret (.val (.tup [.nils, (cbad c (firstW t d suf)).enc])), s')
     else Q0G (.val v) (d.cells.map .val) zb x8 x9 (c.cells.map .val) x13 x14 y (.val (.int .i64 L.length)) s')
 | [], pre, s, i, hp, hi, g => by
   subst hi
   have hpl : pre.length = L.length := by rw [← hp]; simp
   exact ⟨s, .refl s, by rw [hpl]; simp [firstW]⟩
 | u :: suf, pre, s, i, hp, hi, g => by
   subst hi
   obtain ⟨f1, f2, f3⟩ := Q7 (f := tnd) hy hp (by omega) (QlZ _) (by decide)
   obtain ⟨s1, e1, g1⟩ := Qc9 t h d u v hv s
   have e1' := e1
   simp only [Dec.enc, Dec.cells_eq, Ty.enc, Ty.cells_eq] at e1'
   by_cases hw : (wrongR t d u).1 = 0
   ·obtain ⟨s2, g2, e2⟩ := Q7O h hv c L y hy hL x8 x9 x13 x14 suf (pre ++ [u]) s1 (pre.length + 1) (by simpa using hp) (by simp) (g.trans g1)
    have hf : firstW t d (u :: suf) = firstW t d suf := by simp only [firstW]; rw [if_neg (by simpa using hw)]
    refine ⟨s2, g1.trans g2, ?_⟩
    rw [hf, ← e2, Q4i]
    simp only [go_sem, Nat.reduceAdd, Nat.reduceLeDiff, Nat.reduceSub, hy, List.length_map, f1, f2, f3, tnd, TNode.enc, TNode.cells, Dec.cells_len, Exp.cells_len, Pat.cells_len, Ty.cells_eq, Dec.cells_eq, List.map_cons, List.map_nil, e1', hw, decide_true, Bool.not_true, List.cons_append, List.nil_append]
   ·have hf : firstW t d (u :: suf) = wrongR t d u := by simp only [firstW]; rw [if_pos (by simpa using hw)]
    refine ⟨s1, g1, ?_⟩
    rw [hf, if_pos (by simpa using hw), Q4i]
    simp only [go_sem, Nat.reduceAdd, Nat.reduceLeDiff, Nat.reduceSub, hy, List.length_map, f1, f2, f3, tnd, TNode.enc, TNode.cells, Dec.cells_len, Exp.cells_len, Pat.cells_len, Ty.cells_eq, Dec.cells_eq, List.map_cons, List.map_nil, e1', decide_eq_false hw, Bool.not_false, List.cons_append, List.nil_append, Con.cells, cbad, zb, TBad.enc, TBad.cells]
noncomputable abbrev rl0 (x : Slot) (i : Nat) (s : St) : Res := Q2P (.val v) (d.cells.map .val) zb x (.val (.int .i64 i)) s
def pcells (nm data : Str) (tag of_ : Int) (has : Bool) (vars : Int) (z : List Slot) : List Slot := .val (.str nm) :: .val (.str data) :: .val (.int .i64 tag) :: .val (.int .i64 of_) :: .val (.bool has) :: .val (.int .i64 vars) :: z
theorem Q67 (nm data : Str) (tag of_ : Int) (has : Bool) (vars : Int) (a b c e : Slot) (res : Ty) (x14 : List Slot) (h14 : ofSlots (C.ti Q6) (List.take 4 x14) = some (.val res.enc)) (out : List Place) (x : Slot) (s : St) (i : Nat) (ha : AccR Q8 s0 s x (out.map Place.enc)) (ho : out.length < 2^28) (hi : i < 2^40) :
  ∃ x' s', Q2O (.val v) (d.cells.map .val) zb x (.val (.int .i64 i)) (pcells nm data tag of_ has vars [a, b, c, e]) x14 s = rl0 d v x' (i + 1) s' ∧ AccR Q8 s0 s' x' ((out ++ [Place.mk nm data tag of_ has vars res]).map Place.enc) := by
 obtain ⟨x', s', e1, a1⟩ := placeAcc ha ⟨nm, data, tag, of_, has, vars, res⟩ (by omega)
 refine ⟨x', s', ?_, a1⟩
 rw [Qd8]
 simp only [Place.enc, Place.cells_eq] at e1
 simp only [Ty.enc, Ty.cells_eq] at h14
 simp only [go_sem, Nat.reduceAdd, Nat.reduceLeDiff, h14, pcells, e1, Q3M (show i < 2^62 by omega)]
def argBad (t : List Place) (d : Dec) (con : Con) : Int × Str := bif con.has then firstW t d (preTy con.arg) else (0, [])
theorem Q66 (h : TabFit t) (hv : (Slot.val v).list? = some (t.map Place.enc)) (con : Con) (hc : con.arg.size < 2^26) (data : Str) (tag of_ : Int) (vars : Int) (a b c e : Slot) (res : Ty) (hr : res.size < 2^26) (x14 : List Slot) (hl14 : x14.length = 4) (h14 : ofSlots (C.ti Q6) (List.take 4 x14) = some (.val res.enc)) (out : List Place) (x : Slot) (s : St) (i : Nat) (ha : AccR Q8 s0 s x (out.map Place.enc)) (ho : out.length < 2^28) (hi : i < 2^40) (r : Res) (hreq : r = Q1D (.val v) (d.cells.map .val) zb x (.val (.int .i64 i)) (con.cells.map .val) (pcells con.name data tag of_ con.has vars [a, b, c, e]) x14 s) :
  ((argBad t d con).1 ≠ 0 → ∃ s', Grew s0 s' ∧ r = some (.ret (.val (.tup [.nils, (cbad con (argBad t d con)).enc])), s')) ∧
  ((argBad t d con).1 = 0 → ∃ x' s', r = rl0 d v x' (i + 1) s' ∧ AccR Q8 s0 s' x' ((out ++ [Place.mk con.name data tag of_ con.has vars (bif con.has then fnTy con.arg res else res)]).map Place.enc)) := by
 subst hreq
 unfold argBad
 cases hh : con.has with
 | false =>
   refine ⟨fun hx => absurd rfl hx, fun _ => ?_⟩
   obtain ⟨x', s', e1, a1⟩ := Q67 d v s0 con.name data tag of_ false vars a b c e res x14 h14 out x s i ha ho hi
   refine ⟨x', s', ?_, a1⟩
   rw [← e1, Q7M]
   simp only [go_sem, Nat.reduceAdd, Nat.reduceLeDiff, Con.cells, Ty.cells_eq, List.map_cons, List.map_nil, hh]
 | true =>
   simp only [cond_true]
   obtain ⟨x1, s1, e1, a1⟩ := QkH con.arg s (by omega)
   have hl := Qf0 con.arg
   obtain ⟨s2, g2, e2⟩ := Q7O t d v s0 h hv con (preTy con.arg) x1 a1.list? (by omega) x (.val (.int .i64 i)) (pcells con.name data tag of_ true vars [a, b, c, e]) x14 (preTy con.arg) [] s1 0 rfl rfl (ha.grew.trans a1.grew)
   rw [show ((0 : Nat) : Int) = 0 from rfl] at e2
   have e3 : Q1D (.val v) (d.cells.map .val) zb x (.val (.int .i64 i)) (con.cells.map .val) (pcells con.name data tag of_ true vars [a, b, c, e]) x14 s = Q0G (.val v) (d.cells.map .val) zb x (.val (.int .i64 i)) (con.cells.map .val) (pcells con.name data tag of_ true vars [a, b, c, e]) x14 x1 (.val (.int .i64 0)) s1 := by
    rw [Q7M]
    simp only [Ty.enc, Ty.cells_eq] at e1
    simp only [go_sem, Nat.reduceAdd, Nat.reduceLeDiff, Con.cells, Ty.cells_eq, List.map_cons, List.map_nil, hh, e1]
   constructor
   ·intro hx
    refine ⟨s2, (ha.grew.trans a1.grew).trans g2, ?_⟩
    rw [e3, e2, if_pos hx]
   ·intro hx
    obtain ⟨s3, e4, g3⟩ := Qfz con.arg res s2 (by omega)
    obtain ⟨x', s', e5, a5⟩ := Q67 d v s0 con.name data tag of_ true vars a b c e (fnTy con.arg res) ((fnTy con.arg res).cells.map .val) (by kernel_rfl) out x s3 i (((ha.move a1.grew).move g2).move g3) ho hi
    refine ⟨x', s', ?_, a5⟩
    rw [e3, e2, if_neg (by simpa using hx), ← e5, Q4i]
    have hend : decide (((preTy con.arg).length : Int) < ((preTy con.arg).length : Int)) = false := by simp
    simp only [Ty.enc, Ty.cells_eq] at e4
    simp only [go_sem, Nat.reduceLeDiff, hl14, Ty.enc, Ty.cells_eq] at h14
    have hdr : List.drop 4 x14 = [] := List.drop_eq_nil_of_le (by omega)
    simp only [go_sem, Nat.reduceAdd, Nat.reduceLeDiff, a1.list?, List.length_map, hend, Con.cells, Ty.cells_eq, List.map_cons, List.map_nil, h14, e4, hl14, hdr]
def nvars (d : Dec) : Nat := bif decide (d.kind = 3) then d.params.toNat else 0
def own14 (d : Dec) (x : Slot) : List Slot := [.val (.int .i64 2), .val (.int .i64 0), .val (.str d.name), x]
theorem Q7N (hp : d.params < 2^20) (con : Con) (x8 x9 : Slot) (x13 : List Slot) (s1 : St) : ∀ (k i : Nat) (x : Slot) (s : St), AccH Q6 s1.toks.length [] s x ((varsTy i).map Ty.enc) → Moves [] [] [] s1 s → i + k = nvars d →
  ∃ x' s', Q0F (.val v) (d.cells.map .val) zb x8 x9 (con.cells.map .val) x13 (own14 d x) (.val (.int .i64 i)) s = Q0F (.val v) (d.cells.map .val) zb x8 x9 (con.cells.map .val) x13 (own14 d x') (.val (.int .i64 (nvars d : Nat))) s' ∧ AccH Q6 s1.toks.length [] s' x' ((varsTy (nvars d)).map Ty.enc) ∧ Grew s1 s'
 | 0, i, x, s, a, m, h => by
   have hi : i = nvars d := by omega
   subst hi
   exact ⟨x, s, rfl, a, m.toGrew⟩
 | k + 1, i, x, s, a, m, h => by
   have h3 : d.kind = 3 := by
    by_cases h3 : d.kind = 3
    ·exact h3
    ·simp only [nvars, decide_eq_false h3, cond_false] at h; omega
   have hn : nvars d = d.params.toNat := by simp only [nvars, decide_eq_true h3, cond_true]
   have hd : decide ((i : Int) < d.params) = true := by simp only [decide_eq_true_eq]; omega
   obtain ⟨x2, s2, e2, a2, m2, -, -, -⟩ := tyAcc (B := [tvar (i : Int)]) a m (by simp) (y := .full [(tvar (i : Int)).enc]) rfl (by simp only [varsTy, List.length_map, List.length_range, List.length_singleton]; omega)
   rw [← Q8s] at a2
   obtain ⟨x', s', e3, a3, g3⟩ := Q7N hp con x8 x9 x13 s1 k (i + 1) x2 s2 a2 m2 (by omega)
   refine ⟨x', s', ?_, a3, g3⟩
   rw [← e3, Q2B]
   simp only [tvar, Ty.enc, Ty.cells_mk, List.map_nil, Q0B] at e2
   simp only [go_sem, Nat.reduceAdd, Nat.reduceLeDiff, hd, Dec.cells_eq, List.map_cons, List.map_nil, decide_eq_true h3, own14, e2, a2.cellOk, Q3M (show i < 2^62 by omega)]
theorem QkJ (x : Slot) (l : List Ty) (hx : x.av = some (encS true (l.map Ty.enc))) : ofSlots (C.ti Q6) (List.take 4 (own14 d x)) = some (.val (Ty.mk 2 0 d.name l true).enc) := by
 simp only [go_sem, Nat.reduceAdd, Nat.reduceLeDiff, own14, Qh hx, Ty.enc, Ty.cells_mk]
theorem Qen (h : TabFit t) (hv : (Slot.val v).list? = some (t.map Place.enc)) (hp : d.params < 2^20) (hl : d.cons.length < 2^22) (con : Con) (hc : con.arg.size < 2^26) (out : List Place) (hout : TabFit out) (x : Slot) (s : St) (i : Nat) (ha : AccR Q8 s0 s x (out.map Place.enc)) (hat : d.cons[i]? = some con) (hi : i < 2^40) :
  ((conBadR t d out con).1 ≠ 0 → ∃ s', Grew s0 s' ∧ rl0 d v x i s = some (.ret (.val (.tup [.nils, (cbad con (conBadR t d out con)).enc])), s')) ∧
  ((conBadR t d out con).1 = 0 → ∃ x' s', rl0 d v x i s = rl0 d v x' (i + 1) s' ∧ AccR Q8 s0 s' x' ((out ++ [placeR t d i con]).map Place.enc)) := by
 have hlt : i < d.cons.length := (List.getElem?_eq_some_iff.1 hat).1
 have f1 : decide ((i : Int) < (d.cons.length : Int)) = true := by simp only [decide_eq_true_eq]; omega
 have f2 : ixS 7 (.val (encS d.nb (d.cons.map Con.enc))) (.val (.int .i64 i)) = some (.val (.cp con.cells)) := Q58 (v := con.enc) (Qb _ _) (by rw [List.getElem?_map, hat]; rfl) (Con.cells_len con) (by decide)
 obtain ⟨nl, hav⟩ := ha.av
 obtain ⟨s1, e1, g1⟩ := Q7R con.name out hout _ (Qb nl _) s
 cases hf : findD con.name out with
 | some p =>
   rw [hf] at e1
   have hb : conBadR t d out con = (9, con.name) := by simp [conBadR, hf]
   rw [hb]
   refine ⟨fun _ => ⟨s1, ha.grew.trans g1, ?_⟩, fun hx => absurd (show (9 : Int) = 0 from hx) (by decide)⟩
   simp only [Option.map_some, foundD, Place.enc, Place.cells_eq] at e1
   rw [rl0, Q4h]
   simp only [go_sem, Nat.reduceAdd, Nat.reduceLeDiff, Dec.cells_eq, List.map_cons, List.map_nil, List.length_map, f1, f2, Con.cells, Ty.cells_eq, Qh hav, e1, zb, cbad, TBad.enc, TBad.cells]
 | none =>
   rw [hf] at e1
   simp only [Option.map_none, foundD, Place.enc, Place.cells_eq, Place.zero] at e1
   have hb : conBadR t d out con = bif decide (d.kind = 4) && decide (((exns t : Nat) : Int) > 1023) then (19, con.name) else argBad t d con := by
    simp only [conBadR, hf, Option.isSome_none, Bool.false_eq_true, if_false, argBad]
   obtain ⟨x2, s2, e2, a2, g2⟩ := Q7N d v hp con x (.val (.int .i64 i)) (pcells con.name d.name i d.cons.length con.has d.params [.val (.int .i64 0), .val (.int .i64 0), .val (.str []), .val .nils]) s1 (nvars d) 0 (.val .nils) s1 (AccH.nil _ _ _ _) (.refl _ _ _) (by omega)
   rw [show ((0 : Nat) : Int) = 0 from rfl] at e2
   have e3 : rl0 d v x i s = Q0F (.val v) (d.cells.map .val) zb x (.val (.int .i64 i)) (con.cells.map .val) (pcells con.name d.name i d.cons.length con.has d.params [.val (.int .i64 0), .val (.int .i64 0), .val (.str []), .val .nils]) (own14 d (.val .nils)) (.val (.int .i64 0)) s1 := by
    rw [rl0, Q4h]
    simp only [go_sem, Nat.reduceAdd, Nat.reduceLeDiff, Dec.cells_eq, List.map_cons, List.map_nil, List.length_map, f1, f2, Con.cells, Ty.cells_eq, Qh hav, e1, zb, pcells, own14]
   have hcond : (decide (((nvars d : Nat) : Int) < d.params) && decide (d.kind = 3)) = false := by
    by_cases h3 : d.kind = 3
    ·simp only [nvars, decide_eq_true h3, cond_true, Bool.and_true, decide_eq_false_iff_not]; omega
    ·simp only [decide_eq_false h3, Bool.and_false]
   have hn : nvars d < 2^20 := by
    unfold nvars
    cases decide (d.kind = 3) with
    | true => simp only [cond_true]; omega
    | false => simp only [cond_false]; omega
   have ha2 := ((ha.move g1).move g2)
   by_cases h4 : d.kind = 4
   ·obtain ⟨x3, s3, e4, a4⟩ := Q7P sExn t h v hv s2
    have hlen : (dataR sExn t).length = exns t := by simp [dataR, exns]
    have hlen' : (dataR [101, 120, 110] t).length = exns t := hlen
    have ep := Q79 sExn s2
    by_cases hx : ((exns t : Nat) : Int) > 1023
    ·rw [hb, decide_eq_true h4, decide_eq_true hx]
     refine ⟨fun _ => ⟨s3, ha2.grew.trans a4.grew, ?_⟩, fun hx => absurd (show (19 : Int) = 0 from hx) (by decide)⟩
     rw [e3, e2, Q2B]
     simp only [sExn, ofTy, Ty.enc, Ty.cells_mk, List.map_nil, Q0B] at e4 ep
     simp only [go_sem, Nat.reduceAdd, Nat.reduceLeDiff, Dec.cells_eq, List.map_cons, List.map_nil, hcond, decide_eq_true h4, ep, pcells, own14, e4, a4.list?, List.length_map, hlen, hlen', decide_eq_true hx, Con.cells, Ty.cells_eq, zb, cbad, TBad.enc, TBad.cells, Bool.and_self, cond_true]
    ·rw [hb, decide_eq_true h4, decide_eq_false hx]
     have e5 := Q66 t d v s0 h hv con hc sExn (exns t : Nat) 0 0 (.val (.int .i64 0)) (.val (.int .i64 0)) (.val (.str [])) (.val .nils) (ofTy sExn []) (by simp [ofTy, Ty.size, Ty.sizes]) ((ofTy sExn []).cells.map .val) rfl (by kernel_rfl) out x s3 i (ha2.move a4.grew) (by have := hout.1; omega) hi (rl0 d v x i s) ?_
     ·have hp : placeR t d i con = Place.mk con.name sExn (exns t : Nat) 0 con.has 0 (bif con.has then fnTy con.arg (ofTy sExn []) else ofTy sExn []) := by
       simp only [placeR, resR, decide_eq_true h4, cond_true]
      simp only [Bool.and_false, cond_false, hp]
      exact e5
     ·rw [e3, e2, Q2B]
      simp only [sExn, ofTy, Ty.enc, Ty.cells_mk, List.map_nil, Q0B] at e4 ep
      simp only [go_sem, Nat.reduceAdd, Nat.reduceLeDiff, Dec.cells_eq, List.map_cons, List.map_nil, hcond, decide_eq_true h4, ep, pcells, own14, e4, a4.list?, List.length_map, hlen, hlen', decide_eq_false hx, Con.cells, Ty.cells_eq, sExn, ofTy, Ty.cells_mk, List.map_nil, Q0B]
      rfl
   ·rw [hb, decide_eq_false h4]
    have hres : resR d = .mk 2 0 d.name (varsTy (nvars d)) true := by
     simp only [resR, decide_eq_false h4, cond_false, nvars]
     cases decide (d.kind = 3) <;> rfl
    have hvl : (varsTy (nvars d)).length = nvars d := by simp [varsTy]
    have hsz : ∀ n, Ty.sizes (varsTy n) = n := fun n => by
     induction n with
     | zero => rfl
     | succ n ih =>
       have : ∀ (a b : List Ty), Ty.sizes (a ++ b) = Ty.sizes a + Ty.sizes b := fun a b => by
        induction a with
        | nil => simp [Ty.sizes]
        | cons u a ih => simp only [List.cons_append, Ty.sizes, ih]; omega
       rw [Q8s, this, ih]; simp [tvar, Ty.sizes, Ty.size]
    have e5 := Q66 t d v s0 h hv con hc d.name i d.cons.length d.params (.val (.int .i64 0)) (.val (.int .i64 0)) (.val (.str [])) (.val .nils) (resR d) (by rw [hres]; simp only [Ty.size, hsz]; omega) (own14 d x2) rfl (by rw [hres]; exact QkJ d x2 _ a2.av) out x s2 i ha2 (by have := hout.1; omega) hi (rl0 d v x i s) ?_
    ·have hp : placeR t d i con = Place.mk con.name d.name i d.cons.length con.has d.params (bif con.has then fnTy con.arg (resR d) else resR d) := by
      simp only [placeR, decide_eq_false h4, cond_false]
     simp only [Bool.false_and, cond_false, hp]
     exact e5
    ·rw [e3, e2, Q2B]
     simp only [go_sem, Nat.reduceAdd, Nat.reduceLeDiff, Dec.cells_eq, List.map_cons, List.map_nil, hcond, decide_eq_false h4]
theorem Qhg (n : Nat) : Ty.sizes (varsTy n) = n := by
 have app : ∀ (a b : List Ty), Ty.sizes (a ++ b) = Ty.sizes a + Ty.sizes b := fun a b => by
  induction a with
  | nil => simp [Ty.sizes]
  | cons u a ih => simp only [List.cons_append, Ty.sizes, ih]; omega
 induction n with
 | zero => rfl
 | succ n ih => rw [Q8s, app, ih]; simp [tvar, Ty.sizes, Ty.size]
theorem QjQ (hp : d.params < 2^20) : (resR d).size < 2^21 := by
 unfold resR
 cases decide (d.kind = 4) with
 | true => simp [ofTy, Ty.size, Ty.sizes]
 | false =>
   simp only [cond_false]
   cases decide (d.kind = 3) with
   | true => simp only [cond_true, Ty.size, Qhg]; omega
   | false => simp [Ty.size, Ty.sizes]
theorem Qat : ∀ l : List Ty, Ty.sizes (l.map ownTy) = Ty.sizes l
 | [] => rfl
 | t :: l => by simp only [List.map_cons, Ty.sizes, Q6y, Qat l]
theorem Qjx (a b : Ty) : (fnTy a b).size = a.size + b.size + 1 := by
 simp only [fnTy, ofTy, Ty.size, Qat, Ty.sizes]; omega
theorem Qbn (hp : d.params < 2^20) (i : Nat) (con : Con) (hc : con.arg.size < 2^26) : (placeR t d i con).ty.size < 2^27 := by
 have := QjQ d hp
 simp only [placeR]
 cases con.has with
 | true => simp only [cond_true, Qjx]; omega
 | false => simp only [cond_false]; omega
theorem TabFit.own {t : List Place} (h : TabFit t) : TabFit (t.map ownP) := ⟨by rw [List.length_map]; exact h.1, fun p hp => by
 obtain ⟨q, hq, rfl⟩ := List.mem_map.1 hp
 simp only [ownP, Q6y]; exact h.2 q hq⟩
theorem Q8K (h : TabFit t) (hv : (Slot.val v).list? = some (t.map Place.enc)) (hp : d.params < 2^20) (hl : d.cons.length < 2^22) (hc : ∀ c ∈ d.cons, c.arg.size < 2^26) : ∀ (suf pre : List Con) (out : List Place) (x : Slot) (s : St) (i : Nat), pre ++ suf = d.cons → i = pre.length → TabFit out → out.length + suf.length < 2^26 → AccR Q8 s0 s x (out.map Place.enc) →
  RetT (rl0 d v x i s) s0 (consR t d suf i out)
 | [], pre, out, x, s, i, hq, hi, ho, hlen, ha => by
   subst hi
   obtain ⟨nl, hav⟩ := ha.av
   refine ⟨s, _, ?_, Qb nl _, ha.grew⟩
   have hend := Q9 (show pre = d.cons by simpa using hq)
   rw [rl0, Q4h]
   simp only [go_sem, Nat.reduceAdd, Nat.reduceLeDiff, Dec.cells_eq, List.map_cons, List.map_nil, List.length_map, hend, zb, Q0W hav]
   rfl
 | con :: suf, pre, out, x, s, i, hq, hi, ho, hlen, ha => by
   have hlt : i < d.cons.length := by rw [← hq, hi]; simp
   obtain ⟨S1, S2⟩ := Qen t d v s0 h hv hp hl con (hc con (by rw [← hq]; simp)) out ho x s i ha (by rw [← hq, hi]; simp) (by omega)
   simp only [consR]
   by_cases hz : (conBadR t d out con).1 = 0
   ·obtain ⟨x', s', e1, a1⟩ := S2 hz
    rw [if_neg (by simpa using hz), e1]
    simp only [List.length_cons] at hlen
    refine Q8K h hv hp hl hc suf (pre ++ [con]) (out ++ [placeR t d i con]) x' s' (i + 1) (by simpa using hq) (by simp [hi]) ⟨by simp only [List.length_append, List.length_cons, List.length_nil]; omega, fun p hp' => ?_⟩ (by simp only [List.length_append, List.length_cons, List.length_nil]; omega) a1
    rcases List.mem_append.1 hp' with hp' | hp'
    ·exact ho.2 p hp'
    ·simp only [List.mem_singleton] at hp'; subst hp'
     exact Qbn t d hp i con (hc con (by rw [← hq]; simp))
   ·obtain ⟨s', g1, e1⟩ := S1 hz
    rw [if_pos (by simpa using hz)]
    exact ⟨s', .nils, e1, rfl, g1⟩
theorem Q8L (h : TabFit t) (hv : (Slot.val v).list? = some (t.map Place.enc)) (hp : d.params < 2^20) (hl : d.cons.length < 2^22) (hlen : t.length + d.cons.length < 2^26) (hc : ∀ c ∈ d.cons, c.arg.size < 2^26) (s : St) : RetT (cw (.f Zy) [v, d.enc] s) s (addR t d) := by
 have J : ∀ s1, Grew s s1 → RetT (Q1C (.val v) (d.cells.map .val) zb s1) s (consR t d d.cons 0 (t.map ownP)) := fun s1 g1 => by
  obtain ⟨x, s2, e2, a2⟩ := Q6a t h v hv s1
  have e3 := Q8K t d v s h hv hp hl hc d.cons [] (t.map ownP) x s2 0 rfl rfl h.own (by rw [List.length_map]; omega) (a2.weaken g1)
  have e4 : Q1C (.val v) (d.cells.map .val) zb s1 = rl0 d v x 0 s2 := by
   rw [Qd7]
   simp only [go_sem, e2]
   rfl
  rw [e4]; exact e3
 simp only [Dec.cells_eq, List.map_cons, List.map_nil, zb] at J
 rw [QgU]
 unfold addR
 by_cases h3 : d.kind = 3
 ·rw [decide_eq_true h3]
  obtain ⟨s1, e1, g1⟩ := Q4K d.name t h v hv s
  have e2 := Q3I d.name s1
  cases hk : ((dtR t d.name).2 || givenR d.name) with
  | true =>
    refine ⟨s1, .nils, ?_, rfl, g1⟩
    cases hd : (dtR t d.name).2 with
    | true =>
      rw [hd] at e1
      simp only [go_sem, Int.reduceEq, Nat.reduceAdd, Nat.reduceLeDiff, Dec.enc, Dec.cells_eq, List.map_cons, List.map_nil, h3, decide_true, Int.reduceEq, decide_false, Bool.not_true, e1, TBad.enc, TBad.cells]
    | false =>
      rw [hd] at e1
      rw [hd, Bool.false_or] at hk
      rw [hk] at e2
      simp only [go_sem, Int.reduceEq, Nat.reduceAdd, Nat.reduceLeDiff, Dec.enc, Dec.cells_eq, List.map_cons, List.map_nil, h3, decide_true, Int.reduceEq, decide_false, Bool.not_true, e1, e2, TBad.enc, TBad.cells]
  | false =>
    simp only [Bool.or_eq_false_iff] at hk
    rw [hk.1] at e1
    rw [hk.2] at e2
    have j := J s1 g1
    simp only [go_sem, Int.reduceEq, Nat.reduceAdd, Nat.reduceLeDiff, Dec.enc, Dec.cells_eq, List.map_cons, List.map_nil, h3, decide_true, Int.reduceEq, decide_false, Bool.not_true, e1, e2, Bool.and_false, Bool.false_and, cond_false] at j ⊢
    exact j
 ·rw [decide_eq_false h3]
  by_cases h4 : d.kind = 4
  ·rw [decide_eq_true h4]
   have j := J s (.refl s)
   simp only [go_sem, Int.reduceEq, Nat.reduceAdd, Nat.reduceLeDiff, Dec.enc, Dec.cells_eq, List.map_cons, List.map_nil, h4, decide_true, Int.reduceEq, decide_false, Bool.not_true, Bool.not_false, Bool.and_false, Bool.false_and, cond_false] at j ⊢
   exact j
  ·rw [decide_eq_false h4]
   obtain ⟨x, s2, e2, a2⟩ := Q6a t h v hv s
   obtain ⟨nl, hav⟩ := a2.av
   refine ⟨s2, _, ?_, Qb nl _, a2.grew⟩
   simp only [go_sem, Nat.reduceAdd, Nat.reduceLeDiff, Dec.enc, Dec.cells_eq, List.map_cons, List.map_nil, decide_eq_false h3, decide_eq_false h4, e2, Q0W hav]
   rfl
end
theorem Q77 (s0 : St) (x1 x2 x3 x4 : Slot) (h1 : x1.list? = some (startD.map fun p => .str p.name)) (h2 : x2.list? = some (startD.map fun p => .str p.data)) (h3 : x3.list? = some (startD.map fun p => .int .i64 p.tag)) (h4 : x4.list? = some (startD.map fun p => .int .i64 p.of_)) : ∀ (suf pre : List Place) (x : Slot) (s : St) (i : Nat), AccR Q8 s0 s x (pre.map Place.enc) → pre ++ suf = startD → i = pre.length →
  RetA (Q1E x1 x2 x3 x4 x (.val (.int .i64 i)) s) Q8 s0 (startD.map Place.enc)
 | [], pre, x, s, i, ha, hp, hi => by
   subst hi
   have : pre = startD := by simpa using hp
   have h6 : decide ((pre.length : Int) < 6) = false := by rw [this]; rfl
   refine ⟨x, s, ?_, by rw [← this]; exact ha⟩
   rw [Q68]; simp only [go_sem, h6]
 | p :: suf, pre, x, s, i, ha, hp, hi => by
   subst hi
   obtain ⟨f1, f2, f3⟩ := Q7 (f := fun p : Place => AV.str p.name) h1 hp (by decide) (sz := 1) rfl (by decide)
   obtain ⟨-, f4, -⟩ := Q7 (f := fun p : Place => AV.str p.data) h2 hp (by decide) (sz := 1) rfl (by decide)
   obtain ⟨-, f5, -⟩ := Q7 (f := fun p : Place => AV.int .i64 p.tag) h3 hp (by decide) (sz := 1) rfl (by decide)
   obtain ⟨-, f6, -⟩ := Q7 (f := fun p : Place => AV.int .i64 p.of_) h4 hp (by decide) (sz := 1) rfl (by decide)
   have hl6 : (startD.length : Int) = 6 := rfl
   rw [hl6] at f1
   have hpm : p ∈ startD := by rw [← hp]; simp
   have hps : p = placeD p.name p.data p.tag p.of_ := by
    simp only [startD, List.mem_cons, List.not_mem_nil, or_false] at hpm
    rcases hpm with rfl | rfl | rfl | rfl | rfl | rfl <;> rfl
   have e1 := Q79 p.data s
   obtain ⟨x', s', e2, a2⟩ := placeAcc ha p (by have : (pre ++ p :: suf).length = 6 := by rw [hp]; rfl
                                                simp only [List.length_append, List.length_cons] at this; omega)
   have ih := Q77 s0 x1 x2 x3 x4 h1 h2 h3 h4 suf (pre ++ [p]) x' s' (pre.length + 1) a2 (by simpa using hp) (by simp)
   rw [hps] at e2
   simp only [placeD, ofTy, List.map_nil, Place.enc, Place.cells, Ty.cells_mk, Q0B] at e2
   simp only [ofTy, List.map_nil, Ty.enc, Ty.cells_mk, Q0B] at e1
   rw [Q68]
   simp only [go_sem, Nat.reduceAdd, Nat.reduceLeDiff, f1, f2, f3, f4, f5, f6, e1, e2]
   exact ih
theorem Q78 (s : St) : RetA (cw (.f Q27) [] s) Q8 s (startD.map Place.enc) := by
 have e1 := Q77 s (.full (startD.map fun p => .str p.name)) (.full (startD.map fun p => .str p.data)) (.full (startD.map fun p => .int .i64 p.tag)) (.full (startD.map fun p => .int .i64 p.of_)) rfl rfl rfl rfl startD [] (.val .nils) s 0 (AccR.nil _ _) rfl rfl
 rw [show ((0 : Nat) : Int) = 0 from rfl] at e1
 rw [Qeo]
 simp only [go_sem, Nat.reduceAdd]
 exact e1
end Go.Proofs.YtinphnakebeloaaGreat
namespace Go.Proofs.YtinphnakebeloaaGreat
open Go Go.Am
set_option linter.unusedVariables false
set_option maxRecDepth 4000
def DecFitR (d : Dec) : Prop := d.params < 2^20 ∧ ∀ c ∈ d.cons, c.arg.size < 2^26
theorem QeJ (t : List Place) (d : Dec) : ∀ (l : List Con) (i : Nat) (out : List Place), (consR t d l i out).1.length ≤ out.length + l.length
 | [], _, _ => Nat.le_refl _
 | c :: l, i, out => by
   simp only [consR]
   split
   ·simp
   ·have := QeJ t d l (i + 1) (out ++ [placeR t d i c])
    simp only [List.length_append, List.length_cons, List.length_nil] at this ⊢
    omega
theorem QeI (t : List Place) (d : Dec) (hp : d.params < 2^20) : ∀ (l : List Con) (i : Nat) (out : List Place), (∀ c ∈ l, c.arg.size < 2^26) → (∀ p ∈ out, p.ty.size < 2^27) → ∀ p ∈ (consR t d l i out).1, p.ty.size < 2^27
 | [], _, _, _, h => h
 | c :: l, i, out, hl, h => by
   simp only [consR]
   split
   ·simp
   ·refine QeI t d hp l _ _ (fun c hc => hl c (List.mem_cons_of_mem _ hc)) fun p hp' => ?_
    rcases List.mem_append.1 hp' with hp' | hp'
    ·exact h p hp'
    ·simp only [List.mem_singleton] at hp'; subst hp'
     exact Qbn t d hp i c (hl c List.mem_cons_self)
theorem Qg4 (t : List Place) (d : Dec) : (addR t d).1.length ≤ t.length + d.cons.length := by
 unfold addR
 cases (!decide (d.kind = 3) && !decide (d.kind = 4)) with
 | true => simp
 | false =>
   simp only [cond_false]
   cases (decide (d.kind = 3) && ((dtR t d.name).2 || givenR d.name)) with
   | true => simp
   | false =>
     have := QeJ t d d.cons 0 (t.map ownP)
     rw [List.length_map] at this; exact this
theorem Qg3 (t : List Place) (d : Dec) (hd : DecFitR d) (h : ∀ p ∈ t, p.ty.size < 2^27) : ∀ p ∈ (addR t d).1, p.ty.size < 2^27 := by
 have ho : ∀ p ∈ t.map ownP, p.ty.size < 2^27 := fun p hp => by
  obtain ⟨q, hq, rfl⟩ := List.mem_map.1 hp
  simp only [ownP, Q6y]; exact h q hq
 unfold addR
 cases (!decide (d.kind = 3) && !decide (d.kind = 4)) with
 | true => exact ho
 | false =>
   simp only [cond_false]
   cases (decide (d.kind = 3) && ((dtR t d.name).2 || givenR d.name)) with
   | true => simp
   | false => exact QeI t d hd.1 _ _ _ hd.2 ho
theorem Qdl : ∀ p ∈ startD, p.ty.size < 2^27 := by
 intro p hp
 simp only [startD, List.mem_cons, List.not_mem_nil, or_false] at hp
 rcases hp with rfl | rfl | rfl | rfl | rfl | rfl <;> simp [placeD, ofTy, Ty.size, Ty.sizes]
theorem Q9M (P : List Dec) (hP : P.length < 2^40) (y : Slot) (hy : y.list? = some (P.map Dec.enc)) (s0 : St) : ∀ (suf pre : List Dec) (t : List Place) (x : Slot) (v : AV) (s : St) (i : Nat), pre ++ suf = P → i = pre.length → (∀ d ∈ suf, DecFitR d) → t.length + consOf suf < 2^22 → (∀ p ∈ t, p.ty.size < 2^27) → x.av = some v → (Slot.val v).list? = some (t.map Place.enc) → Grew s0 s →
  RetT (Q3o y zb x (.val (.int .i64 i)) s) s0 (ofR suf t)
 | [], pre, t, x, v, s, i, hp, hi, hF, hl, hw, hx, hv, g => by
   subst hi
   refine ⟨s, v, ?_, hv, g⟩
   rw [Q8M]; simp only [go_sem, Nat.reduceAdd, Nat.reduceLeDiff, hy, List.length_map, Q9 (show pre = P by simpa using hp), zb, Q0W hx]
   rfl
 | d :: suf, pre, t, x, v, s, i, hp, hi, hF, hl, hw, hx, hv, g => by
   subst hi
   obtain ⟨f1, f2, f3⟩ := Q7 hy hp (by omega) (Dec.cells_len d) (by decide)
   have hf := hF d List.mem_cons_self
   simp only [consOf] at hl
   obtain ⟨s1, w, e1, hw1, g1⟩ := Q8L t d v ⟨by omega, hw⟩ hv hf.1 (by omega) (by omega) hf.2 s
   have hlen := Qg4 t d
   have ih := Q9M P hP y hy s0 suf (pre ++ [d]) (addR t d).1 (.val w) w s1 (pre.length + 1) (by simpa using hp) (by simp) (fun q hq => hF q (List.mem_cons_of_mem _ hq)) (by omega) (Qg3 t d hf hw) rfl hw1 (g.trans g1)
   rw [Q8M]
   simp only [Dec.enc, Dec.cells_eq] at e1
   simp only [ofR]
   by_cases hz : (addR t d).2.kind = 0
   ·rw [if_neg (by simpa using hz)]
    simp only [go_sem, Nat.reduceAdd, Nat.reduceLeDiff, hy, List.length_map, f1, f2, f3, Dec.cells_eq, Qh hx, e1, TBad.enc, TBad.cells, List.map_cons, List.map_nil, hz, decide_true, Bool.not_true]
    exact ih
   ·rw [if_pos (by simpa using hz)]
    refine ⟨s1, .nils, ?_, rfl, g.trans g1⟩
    simp only [go_sem, Nat.reduceAdd, Nat.reduceLeDiff, hy, List.length_map, f1, f2, f3, Dec.cells_eq, Qh hx, e1, TBad.enc, TBad.cells, List.map_cons, List.map_nil, decide_eq_false hz, Bool.not_false, zb]
theorem QfD (P : List Dec) (nl : Bool) (hF : ∀ d ∈ P, DecFitR d) (hs : Dec.sizes P < 2^21) (s : St) : RetT (cw (.f Q6q) [encS nl (P.map Dec.enc)] s) s (ofR P startD) := by
 obtain ⟨x, s1, e1, a1⟩ := Q78 s
 obtain ⟨b, hav⟩ := a1.av
 have hl := Dec.len_sizes P
 have hc := Q5r P
 have e2 := Q9M P (by omega) (.val (encS nl (P.map Dec.enc))) (Qb _ _) s P [] startD x _ s1 0 rfl rfl hF (by simp only [startD, List.length_cons, List.length_nil]; omega) Qdl hav (Qb b _) a1.grew
 rw [show ((0 : Nat) : Int) = 0 from rfl] at e2
 rw [QhP]
 simp only [go_sem, e1, zb] at e2 ⊢
 exact e2
end Go.Proofs.YtinphnakebeloaaGreat
namespace Go.Proofs.YtinphnakebeloaaGreat
open Go Go.Am
set_option linter.unusedVariables false
def conR (t : List Place) (nm : Str) (a k : Int) : TBad := match findD nm t with
 | none => ⟨17, a, nm⟩
 | some p => if p.has ≠ decide (k = 1) then ⟨19, a, nm⟩ else .zero
def thenB (a b : TBad) : TBad := bif decide (a.kind = 0) then b else a
theorem QY {a : TBad} (h : a.kind = 0) (b : TBad) : thenB a b = b := by unfold thenB; rw [decide_eq_true h]; rfl
theorem QS {a : TBad} (h : a.kind ≠ 0) (b : TBad) : thenB a b = a := by unfold thenB; rw [decide_eq_false h]; rfl
def namesR (d : Dec) : List Str := bif decide (d.kind = 1) && decide ((d.case.length : Int) = 1) then varsCases d.case else bif decide (d.kind = 2) then d.funs.map Fun.name else []
section
variable (t : List Place)
mutual
def patR : Pat → List Str → TBad × List Str
 | .mk k a nm _ l _, names =>
   bif (decide (k = 2) || decide (k = 6)) && decide (nm ∈ names) then (⟨9, a, nm⟩, names)
   else bif decide (k = 4) && !decide ((conR t nm a l.length).kind = 0) then (conR t nm a l.length, names)
   else patsR l (bif decide (k = 2) || decide (k = 6) then names ++ [nm] else names)
def patsR : List Pat → List Str → TBad × List Str
 | [], names => (.zero, names)
 | p :: l, names => bif decide ((patR p names).1.kind = 0) then patsR l (patR p names).2 else ((patR p names).1, names)
end
mutual
def oneR : Case → List Str → TBad
 | .mk p e, bd => thenB (patR t p []).1 (expR e (bd ++ (patR t p []).2))
def expR : Exp → List Str → TBad
 | .mk k a nm _ l _ c _ d _, bd =>
   bif decide (k = 2) && !decide (nm ∈ bd) then ⟨16, a, nm⟩
   else bif decide (k = 3) && !decide ((conR t nm a l.length).kind = 0) then conR t nm a l.length
   else thenB (decsR d bd) (thenB (expsR l (bd ++ d.flatMap namesR)) (onesR c (bd ++ d.flatMap namesR)))
def expsR : List Exp → List Str → TBad
 | [], _ => .zero
 | e :: l, bd => thenB (expR e bd) (expsR l bd)
def onesR : List Case → List Str → TBad
 | [], _ => .zero
 | c :: l, bd => thenB (oneR c bd) (onesR l bd)
def decsR : List Dec → List Str → TBad
 | [], _ => .zero
 | d :: r, bd => thenB (decR d bd) (decsR r (bd ++ namesR d))
def decR : Dec → List Str → TBad
 | .mk k a s p l lb c cb f fb, bd => bif decide (k = 1) then valR c bd else funsR f (bd ++ namesR (.mk k a s p l lb c cb f fb)) []
def valR : List Case → List Str → TBad
 | [], _ => .zero
 | .mk p e :: _, bd => thenB (patR t p []).1 (expR e bd)
def funsR : List Fun → List Str → List Str → TBad
 | [], _, _ => .zero
 | .mk nm a c :: r, bd, had => bif decide (nm ∈ had) then ⟨9, a, nm⟩ else thenB (oneR c bd) (funsR r bd (had ++ [nm]))
end
end
def chkR : List Dec → List Place → List Str → TBad
 | [], _, _ => .zero
 | d :: r, t, bd => thenB (decR t d bd) (chkR r (addR t d).1 (bd ++ namesR d))
def checkR (P : List Dec) : TBad := thenB (rightN (nodesDecs false P) (deepDecs P 0)) (thenB (ofR P startD).2 (chkR P startD []))
mutual
def freeR : Exp → List Str → List Str → List Str
 | .mk k _ nm _ l _ c _ d _, bd, found => freeCases c (freeDecs d bd (bif decide (k = 2) && !decide (nm ∈ bd) && !decide (nm ∈ found) then found ++ [nm] else found)).1 (freeExps l (freeDecs d bd (bif decide (k = 2) && !decide (nm ∈ bd) && !decide (nm ∈ found) then found ++ [nm] else found)).1 (freeDecs d bd (bif decide (k = 2) && !decide (nm ∈ bd) && !decide (nm ∈ found) then found ++ [nm] else found)).2)
def freeExps : List Exp → List Str → List Str → List Str
 | [], _, found => found
 | e :: l, bd, found => freeExps l bd (freeR e bd found)
def freeCases : List Case → List Str → List Str → List Str
 | [], _, found => found
 | .mk p e :: l, bd, found => freeCases l bd (freeR e (bd ++ varsPat p) found)
def freeDecs : List Dec → List Str → List Str → List Str × List Str
 | [], bd, found => (bd, found)
 | .mk k a s p l lb c cb f fb :: r, bd, found => freeDecs r (bd ++ namesR (.mk k a s p l lb c cb f fb)) (freeFuns f (bd ++ namesR (.mk k a s p l lb c cb f fb)) (bif decide (k = 1) then freeVal c bd found else found))
def freeVal : List Case → List Str → List Str → List Str
 | [], _, found => found
 | .mk _ e :: _, bd, found => freeR e bd found
def freeFuns : List Fun → List Str → List Str → List Str
 | [], _, found => found
 | .mk _ _ c :: r, bd, found => freeFuns r bd (freeCase c bd found)
def freeCase : Case → List Str → List Str → List Str
 | .mk p e, bd, found => freeR e (bd ++ varsPat p) found
end
end Go.Proofs.YtinphnakebeloaaGreat
namespace Go.Proofs.YtinphnakebeloaaGreat
open Go Go.Am
set_option linter.unusedVariables false
set_option maxRecDepth 4000
theorem QC (b : TBad) (s : St) : cw (.f QQ) [b.enc] s = some (.ret (.val (.bool (decide (b.kind = 0)))), s) := by
 rw [QfF]; simp only [go_sem, Nat.reduceAdd, TBad.enc, TBad.cells, List.map_cons, List.map_nil]
theorem Q9N (nm : Str) (l : List Str) (y : Slot) (hy : y.list? = some (l.map .str)) (hl : l.length < 2^40) (s : St) : ∀ (suf pre : List Str) (i : Nat), pre ++ suf = l → i = pre.length →
  Q3p y (.val (.str nm)) (.val (.int .i64 i)) s = some (.ret (.val (.bool (decide (nm ∈ suf)))), s)
 | [], pre, i, hp, hi => by
   subst hi
   rw [Q8N]; simp only [go_sem, hy, List.length_map, Q9 (show pre = l by simpa using hp)]
   simp
 | k :: suf, pre, i, hp, hi => by
   subst hi
   obtain ⟨f1, f2, f3⟩ := Q7 hy hp (by omega) (sz := 1) rfl (by decide)
   have ih := Q9N nm l y hy hl s suf (pre ++ [k]) (pre.length + 1) (by simpa using hp) (by simp)
   rw [Q8N]
   by_cases e : k = nm
   ·subst e
    simp only [go_sem, Nat.reduceAdd, Nat.reduceLeDiff, hy, List.length_map, f1, f2, f3, decide_true]
    simp
   ·have : decide (nm ∈ k :: suf) = decide (nm ∈ suf) := by
     rw [decide_eq_decide]; simp [Ne.symm e]
    rw [this]
    simp only [go_sem, Nat.reduceAdd, Nat.reduceLeDiff, hy, List.length_map, f1, f2, f3, decide_eq_false e, ih]
theorem Q5N (nm : Str) (l : List Str) (v : AV) (hv : (Slot.val v).list? = some (l.map .str)) (hl : l.length < 2^40) (s : St) : cw (.f Q2Y) [v, .str nm] s = some (.ret (.val (.bool (decide (nm ∈ l)))), s) := by
 have := Q9N nm l (.val v) hv hl s l [] 0 rfl rfl
 rw [show ((0 : Nat) : Int) = 0 from rfl] at this
 rw [QhQ]; exact this
theorem Q2i (a b : List Str) (v w : AV) (hv : (Slot.val v).list? = some (a.map .str)) (hw : (Slot.val w).list? = some (b.map .str)) (hl : a.length + b.length < 2^29) (s : St) : RetL (cw (.f Q1W) [v, w] s) s (a ++ b) := by
 obtain ⟨x1, s1, e1, a1⟩ := AccR.appendF (f := AV.str) (A := []) (B := a) (AccR.full Q1 s []) hv (fun _ => by rw [Zd]; rfl) (by rw [Zd]; decide) (by simp only [List.length_nil]; omega) (by rw [Q31]; decide)
 obtain ⟨x2, s2, e2, a2⟩ := AccR.appendF (f := AV.str) (A := [] ++ a) (B := b) a1 hw (fun _ => by rw [Zd]; rfl) (by rw [Zd]; decide) (by simp only [List.nil_append]; omega) (by rw [Q31]; decide)
 obtain ⟨nl, hav⟩ := a2.av
 refine ⟨x2, s2, _, ?_, hav, by simpa using Qb nl _, a2.grew⟩
 rw [QhR]
 simp only [go_sem, e1, e2]
theorem Q7b (d : Dec) (hl : d.funs.length < 2^28) (hk : d.kind = 2) (s0 : St) : ∀ (suf pre : List Fun) (x : Slot) (s : St) (i : Nat), AccR Q1 s0 s x ((pre.map Fun.name).map .str) → pre ++ suf = d.funs → i = pre.length →
  RetA (Q0w (d.cells.map .val) x (.val (.int .i64 i)) s) Q1 s0 ((d.funs.map Fun.name).map .str)
 | [], pre, x, s, i, a, hp, hi => by
   subst hi
   have hpt : pre = d.funs := by simpa using hp
   have hend := Q9 hpt
   refine ⟨x, s, ?_, by rw [← hpt]; exact a⟩
   rw [Q3d]
   simp only [go_sem, Nat.reduceAdd, Nat.reduceLeDiff, Dec.cells_eq, List.map_cons, List.map_nil, List.length_map, hk, decide_true, hend]
 | .mk nm at_ c :: suf, pre, x, s, i, a, hp, hi => by
   subst hi
   obtain ⟨f1, f2, f3⟩ := Q7 (x := .val (encS d.fb (d.funs.map Fun.enc))) (Qb _ _) hp (by omega) (Fun.cells_len (.mk nm at_ c)) (by decide)
   have hlt : pre.length < d.funs.length := by rw [← hp]; simp
   obtain ⟨x2, s2, e2, a2⟩ := AccR.appendF (f := AV.str) (B := [nm]) (t := C.ti Q1) (y := .full [.str nm]) a rfl (fun _ => by rw [Zd]; rfl) (by rw [Zd]; decide) (by simp only [List.length_map, List.length_singleton]; omega) (by rw [Q31]; decide)
   have ih := Q7b d hl hk s0 suf (pre ++ [.mk nm at_ c]) x2 s2 (pre.length + 1) (by rw [List.map_append]; exact a2) (by simpa using hp) (by simp)
   revert ih
   generalize (d.funs.map Fun.name).map AV.str = L
   intro ih
   rw [Q3d]
   simp only [go_sem, Nat.reduceAdd, Nat.reduceLeDiff, Dec.cells_eq, List.map_cons, List.map_nil, List.length_map, hk, decide_true, f1, f2, f3, e2] at ih ⊢
   exact ih
theorem Q3J (d : Dec) (hd : d.size < 2^26) (s : St) : RetA (cw (.f Q07) [d.enc] s) Q1 s ((namesR d).map .str) := by
 have hsz : d.case.length < 2^26 ∧ d.funs.length < 2^26 ∧ Case.sizes d.case < 2^26 := by
  cases d with
  | mk k a nm p l lb c cb f fb =>
    have h1 := Case.len_sizes c
    have h2 := Fun.len_sizes f
    simp only [Dec.size, Dec.case, Dec.funs] at *
    omega
 have hnot : ∀ x s1, d.kind ≠ 2 → Q0v (d.cells.map .val) x s1 = some (.ret x, s1) := fun x s1 h2 => by
  rw [Q6c, Q3d]
  simp only [go_sem, Int.reduceAdd, Nat.reduceAdd, Nat.reduceLeDiff, Dec.cells_eq, List.map_cons, List.map_nil, decide_eq_false h2, Bool.false_and]
 simp only [Dec.cells_eq, List.map_cons, List.map_nil] at hnot
 rw [Qes]
 unfold namesR
 by_cases h1 : d.kind = 1
 ·have h2 : d.kind ≠ 2 := by omega
  have hn := fun x s1 => hnot x s1 h2
  cases hc : d.case with
  | nil =>
    refine ⟨.full [], s, ?_, ?_⟩
    ·simp only [h1, hc, List.map_cons, List.map_nil, Q0Z] at hn
     simp only [go_sem, Int.reduceEq, Nat.reduceAdd, Dec.enc, Dec.cells_eq, List.map_cons, List.map_nil, h1, decide_true, hc, List.length_nil, Int.natCast_zero, Int.reduceEq, decide_false, Qb, hn]
    ·simp [h1]; exact AccR.full _ _ _
  | cons q r =>
    cases q with
    | mk p e =>
    cases r with
    | nil =>
      have hps : p.size < 2^28 := by
       have := hsz.2.2
       rw [hc] at this
       simp only [Case.sizes, Case.size] at this
       omega
      obtain ⟨x1, s1, e1, a1⟩ := Q7L _ p s (Nat.le_refl _) hps
      have hix : ixS 12 (.val (.sl [(Case.mk p e).enc])) (.val (.int .i64 0)) = some (.val (.cp (Case.mk p e).cells)) := Q58 (n := 0) (v := (Case.mk p e).enc) rfl rfl (Case.cells_len _) (by decide)
      refine ⟨x1, s1, ?_, ?_⟩
      ·simp only [h1, hc, List.map_cons, List.map_nil, Q0Z] at hn
       simp only [Pat.enc, Pat.cells_eq] at e1
       simp only [go_sem, Nat.reduceAdd, Dec.enc, Dec.cells_eq, List.map_cons, List.map_nil, h1, decide_true, hc, List.length_cons, List.length_nil, Q0Z, hix, Case.cells_mk, Pat.cells_eq, e1, hn, show decide (((1 : Nat) : Int) = 1) = true from rfl]
      ·simpa [h1, varsCases] using a1
    | cons q2 r2 =>
      have hne : decide (((r2.length + 1 + 1 : Nat) : Int) = 1) = false := by simp only [decide_eq_false_iff_not]; omega
      refine ⟨.full [], s, ?_, ?_⟩
      ·simp only [h1, hc, List.map_cons, List.map_nil, Q0Z] at hn
       simp only [go_sem, Nat.reduceAdd, Dec.enc, Dec.cells_eq, List.map_cons, List.map_nil, h1, decide_true, hc, List.length_cons, List.length_map, Q0Z, hne, hn]
      ·have : (decide (d.kind = 1) && decide ((((Case.mk p e :: q2 :: r2).length : Nat) : Int) = 1)) = false := by
        simp only [List.length_cons, hne, Bool.and_false]
       simp only [h1, decide_true, List.length_cons, hne, Bool.and_false, cond_false, Int.reduceEq, decide_false, List.map_nil]
       exact AccR.full _ _ _
 ·rw [decide_eq_false h1, Bool.false_and, cond_false]
  by_cases h2 : d.kind = 2
  ·have e1 := Q7b d (by omega) h2 s d.funs [] (.full []) s 0 (AccR.full _ _ _) rfl rfl
   rw [show ((0 : Nat) : Int) = 0 from rfl] at e1
   rw [decide_eq_true h2, cond_true]
   have hj : Q0v (d.cells.map .val) (.full []) s = Q0w (d.cells.map .val) (.full []) (.val (.int .i64 0)) s := by rw [Q6c]
   simp only [Dec.cells_eq, List.map_cons, List.map_nil, h2] at hj e1
   revert e1
   generalize (d.funs.map Fun.name).map AV.str = L
   intro e1
   simp only [go_sem, Int.reduceEq, Nat.reduceAdd, Dec.enc, Dec.cells_eq, List.map_cons, List.map_nil, decide_eq_false h1, Bool.false_and, h2, Int.reduceEq, decide_false, hj]
   exact e1
  ·rw [decide_eq_false h2]
   refine ⟨.full [], s, ?_, AccR.full _ _ _⟩
   simp only [go_sem, Nat.reduceAdd, Dec.enc, Dec.cells_eq, List.map_cons, List.map_nil, decide_eq_false h1, Bool.false_and, hnot _ _ h2]
theorem QcN (d : Dec) : (namesR d).length ≤ d.size := by
 have h1 : (varsCases d.case).length ≤ d.size := by
  have := Q9T d.case
  cases d; simp only [Dec.size, Dec.case] at *; omega
 have h2 : (d.funs.map Fun.name).length ≤ d.size := by
  have := Fun.len_sizes d.funs
  cases d; simp only [Dec.size, Dec.funs, List.length_map] at *; omega
 unfold namesR
 cases (decide (d.kind = 1) && decide ((d.case.length : Int) = 1)) with
 | true => exact h1
 | false => cases decide (d.kind = 2) with
   | true => exact h2
   | false => simp
theorem Q8O (t : List Place) (h : TabFit t) (tv : AV) (hv : (Slot.val tv).list? = some (t.map Place.enc)) (nm : Str) (a k : Int) (s : St) : Ret (cw (.f Q5h) [tv, .str nm, .int .i64 a, .int .i64 k] s) s (conR t nm a k).enc := by
 obtain ⟨s1, e1, g1⟩ := Q7R nm t h tv hv s
 refine ⟨s1, ?_, g1⟩
 rw [QgV]
 unfold conR
 cases hf : findD nm t with
 | none =>
   rw [hf] at e1
   simp only [Option.map_none, foundD, Place.enc, Place.cells_eq, Place.zero] at e1
   simp only [go_sem, Nat.reduceAdd, Nat.reduceLeDiff, e1, Bool.not_false, TBad.enc, TBad.cells]
 | some p =>
   rw [hf] at e1
   simp only [Option.map_some, foundD, Place.enc, Place.cells_eq, ownP] at e1
   by_cases hh : p.has = decide (k = 1)
   ·have hn : ∀ b : Bool, binS (C.ti Qk) .neq (.val (.bool b)) (.val (.bool b)) = some (.val (.bool false)) := fun b => by cases b <;> rfl
    simp only [go_sem, Nat.reduceAdd, Nat.reduceLeDiff, ne_eq, e1, Bool.not_true, TBad.enc, TBad.cells, hh, hn, not_true_eq_false, if_false, TBad.zero]
   ·have hn : binS (C.ti Qk) .neq (.val (.bool p.has)) (.val (.bool (decide (k = 1)))) = some (.val (.bool true)) := by
     revert hh; cases p.has <;> cases decide (k = 1) <;> intro hh <;> first | rfl | exact absurd rfl hh
    simp only [go_sem, Nat.reduceAdd, Nat.reduceLeDiff, ne_eq, not_false_eq_true, e1, Bool.not_true, TBad.enc, TBad.cells, hh, hn, not_false_eq_true, if_true]
def RetP (r : Res) (s0 : St) (o : TBad × List Str) : Prop := ∃ s' w, r = some (.ret (.val (.tup [o.1.enc, w])), s') ∧ (Slot.val w).list? = some (o.2.map .str) ∧ Grew s0 s'
mutual
theorem QbU (t : List Place) : ∀ (p : Pat) (names : List Str), (patR t p names).2.length ≤ names.length + p.size
 | .mk k a nm n l b, names => by
   have h := QeZ t l (bif decide (k = 2) || decide (k = 6) then names ++ [nm] else names)
   simp only [patR, Pat.size]
   cases (decide (k = 2) || decide (k = 6)) && decide (nm ∈ names) with
   | true => simp
   | false =>
     simp only [cond_false]
     cases decide (k = 4) && !decide ((conR t nm a l.length).kind = 0) with
     | true => simp
     | false =>
       simp only [cond_false]
       cases hx : (decide (k = 2) || decide (k = 6)) with
       | true => rw [hx] at h; simp only [cond_true, List.length_append, List.length_cons, List.length_nil] at h ⊢; omega
       | false => rw [hx] at h; simp only [cond_false] at h ⊢; omega
theorem QeZ (t : List Place) : ∀ (l : List Pat) (names : List Str), (patsR t l names).2.length ≤ names.length + Pat.sizes l
 | [], names => by simp [patsR]
 | p :: l, names => by
   have h1 := QbU t p names
   have h2 := QeZ t l (patR t p names).2
   simp only [patsR, Pat.sizes]
   cases decide ((patR t p names).1.kind = 0) with
   | true => simp only [cond_true]; omega
   | false => simp
end
section
variable (t : List Place) (tv : AV)
def PatROK (t : List Place) (tv : AV) (p : Pat) : Prop := ∀ (names : List Str) (v : AV) (s : St), (Slot.val v).list? = some (names.map .str) → names.length + p.size < 2^28 → RetP (cw (.f Q0i) [tv, p.enc, v] s) s (patR t p names)
theorem Q8P (p : Pat) (hs : p.size < 2^28) (s0 : St) (names0 : List Str) : ∀ (suf pre : List Pat) (names : List Str) (x : Slot) (v : AV) (s : St) (i : Nat), pre ++ suf = p.kids → i = pre.length → (∀ q ∈ suf, PatROK t tv q) → x.av = some v → (Slot.val v).list? = some (names.map .str) → names.length + Pat.sizes suf < 2^28 → Grew s0 s →
  RetP (Q1J (.val tv) x (p.cells.map .val) zb (.val (.int .i64 i)) s) s0 (patsR t suf names)
 | [], pre, names, x, v, s, i, hp, hi, H, hx, hw, hn, g => by
   subst hi
   have hend := Q9 (show pre = p.kids by simpa using hp)
   refine ⟨s, v, ?_, hw, g⟩
   rw [Q4n]
   simp only [go_sem, Nat.reduceAdd, Nat.reduceLeDiff, Pat.cells_eq, List.map_cons, List.map_nil, List.length_map, hend, zb, Q0W hx]
   rfl
 | q :: suf, pre, names, x, v, s, i, hp, hi, H, hx, hw, hn, g => by
   subst hi
   have hl : p.kids.length < 2^28 := by
    have := Pat.len_sizes p.kids
    cases p; simp only [Pat.size, Pat.kids] at *; omega
   obtain ⟨f1, f2, f3⟩ := Q7 (x := .val (encS p.kb (p.kids.map Pat.enc))) (Qb _ _) hp (by omega) (Pat.cells_len q) (by decide)
   simp only [Pat.sizes] at hn
   obtain ⟨s1, w, e1, hw1, g1⟩ := H q List.mem_cons_self names v s hw (by omega)
   have e2 := QC (patR t q names).1 s1
   have hlen := QbU t q names
   simp only [Pat.enc, Pat.cells_eq, TBad.enc, TBad.cells] at e1 e2
   simp only [patsR]
   by_cases hz : (patR t q names).1.kind = 0
   ·have ih := Q8P p hs s0 names0 suf (pre ++ [q]) (patR t q names).2 (.val w) w s1 (pre.length + 1) (by simpa using hp) (by simp) (fun r hr => H r (List.mem_cons_of_mem _ hr)) rfl hw1 (by omega) (g.trans g1)
    rw [decide_eq_true hz, cond_true]
    rw [decide_eq_true hz] at e2
    rw [Q4n]
    simp only [go_sem, Nat.reduceAdd, Nat.reduceLeDiff, Pat.cells_eq, List.map_cons, List.map_nil, List.length_map, f1, f2, f3, Qh hx, e1, e2, Bool.not_true] at ih ⊢
    exact ih
   ·rw [decide_eq_false hz, cond_false]
    rw [decide_eq_false hz] at e2
    refine ⟨s1, v, ?_, hw, g.trans g1⟩
    rw [Q4n]
    simp only [go_sem, Nat.reduceAdd, Nat.reduceLeDiff, Pat.cells_eq, List.map_cons, List.map_nil, List.length_map, f1, f2, f3, Qh hx, e1, e2, Bool.not_false, zb, Q0W hx, TBad.enc, TBad.cells]
variable (h : TabFit t) (hv : (Slot.val tv).list? = some (t.map Place.enc))
include h hv
theorem Q5b : ∀ (m : Nat) (p : Pat), p.size ≤ m → PatROK t tv p
 | 0, .mk _ _ _ _ _ _, hm => by simp only [Pat.size] at hm; omega
 | m + 1, .mk k a nm n l nl, hm => fun names v s hw hn => by
   have hm' := hm
   simp only [Pat.size] at hm hn
   have L := fun (names' : List Str) (x : Slot) (w : AV) (s1 : St) (hx : x.av = some w) (hw' : (Slot.val w).list? = some (names'.map .str)) (hn' : names'.length + Pat.sizes l < 2^28) (g : Grew s s1) => Q8P t tv (.mk k a nm n l nl) (by simp only [Pat.size]; omega) s names l [] names' x w s1 0 rfl rfl (fun q hq => by
    have := Pat.mem_sizes hq
    exact Q5b m q (by omega)) hx hw' hn' g
   have J : ∀ (names' : List Str) (x : Slot) (w : AV) (s1 : St), x.av = some w → (Slot.val w).list? = some (names'.map .str) → names'.length + Pat.sizes l < 2^28 → Grew s s1 →
     RetP (Q2T (.val tv) x ((Pat.mk k a nm n l nl).cells.map .val) zb s1) s (bif decide (k = 4) && !decide ((conR t nm a l.length).kind = 0) then (conR t nm a l.length, names') else patsR t l names') := fun names' x w s1 hx hw' hn' g => by
    have hj1 : ∀ s2, Q2U (.val tv) x ((Pat.mk k a nm n l nl).cells.map .val) zb s2 = Q1J (.val tv) x ((Pat.mk k a nm n l nl).cells.map .val) zb (.val (.int .i64 0)) s2 := fun s2 => by rw [Qdc]
    rw [Qdb]
    by_cases h4 : k = 4
    ·obtain ⟨s2, e2, g2⟩ := Q8O t h tv hv nm a l.length s1
     have e3 := QC (conR t nm a l.length) s2
     simp only [TBad.enc, TBad.cells] at e2 e3
     rw [decide_eq_true h4, Bool.true_and]
     by_cases hz : (conR t nm a l.length).kind = 0
     ·have ih := L names' x w s2 hx hw' hn' (g.trans g2)
      rw [decide_eq_true hz] at e3 ⊢
      simp only [Bool.not_true, cond_false]
      rw [show ((0 : Nat) : Int) = 0 from rfl, ← hj1] at ih
      simp only [Pat.cells_mk, List.map_cons, List.map_nil] at ih
      simp only [go_sem, Nat.reduceAdd, Nat.reduceLeDiff, Pat.cells_mk, List.map_cons, List.map_nil, List.length_map, decide_eq_true h4, e2, e3, Bool.not_true]
      exact ih
     ·rw [decide_eq_false hz] at e3 ⊢
      simp only [Bool.not_false, cond_true]
      refine ⟨s2, w, ?_, hw', g.trans g2⟩
      simp only [go_sem, Nat.reduceAdd, Nat.reduceLeDiff, Pat.cells_mk, List.map_cons, List.map_nil, List.length_map, decide_eq_true h4, e2, e3, Bool.not_false, zb, Q0W hx, TBad.enc, TBad.cells]
    ·have ih := L names' x w s1 hx hw' hn' g
     rw [decide_eq_false h4, Bool.false_and, cond_false]
     rw [show ((0 : Nat) : Int) = 0 from rfl, ← hj1] at ih
     simp only [Pat.cells_mk, List.map_cons, List.map_nil] at ih
     simp only [go_sem, Nat.reduceAdd, Nat.reduceLeDiff, Pat.cells_mk, List.map_cons, List.map_nil, decide_eq_false h4]
     exact ih
   simp only [Pat.cells_mk, List.map_cons, List.map_nil, zb] at J
   have eIn := Q5N nm names v hw (by omega) s
   rw [Qh1]
   simp only [patR]
   cases hx : (decide (k = 2) || decide (k = 6)) with
   | false =>
     simp only [Bool.false_and, cond_false]
     have j := J names (.val v) v s rfl hw (by omega) (.refl s)
     simp only [go_sem, Nat.reduceAdd, Nat.reduceLeDiff, Pat.enc, Pat.cells_mk, List.map_cons, List.map_nil, hx] at j ⊢
     exact j
   | true =>
     simp only [Bool.true_and, cond_true]
     by_cases hm : nm ∈ names
     ·rw [decide_eq_true hm] at eIn ⊢
      refine ⟨s, v, ?_, hw, .refl s⟩
      simp only [go_sem, Nat.reduceAdd, Nat.reduceLeDiff, Pat.enc, Pat.cells_mk, List.map_cons, List.map_nil, hx, eIn, TBad.enc, TBad.cells]
     ·rw [decide_eq_false hm] at eIn ⊢
      simp only [cond_false]
      obtain ⟨x2, s2, w2, e2, a2, l2, g2⟩ := Q2i names [nm] v (.sl [.str nm]) hw rfl (by simp only [List.length_cons, List.length_nil]; omega) s
      have j := J (names ++ [nm]) x2 w2 s2 a2 l2 (by simp only [List.length_append, List.length_cons, List.length_nil]; omega) g2
      have h4 : decide (k = 4) = false := by
       simp only [Bool.or_eq_true, decide_eq_true_eq] at hx
       simp only [decide_eq_false_iff_not]; omega
      rw [h4] at j ⊢
      simp only [go_sem, Nat.reduceAdd, Nat.reduceLeDiff, Pat.enc, Pat.cells_mk, List.map_cons, List.map_nil, hx, eIn, e2, Bool.false_and, cond_false] at j ⊢
      exact j
end
end Go.Proofs.YtinphnakebeloaaGreat
namespace Go.Proofs.YtinphnakebeloaaGreat
open Go Go.Am
set_option linter.unusedVariables false
def RN (l : List TNode) : Prop := ∀ n ∈ l, n.wrong.1 = 0
theorem RN.l {a b : List TNode} (h : RN (a ++ b)) : RN a := fun n hn => h n (List.mem_append_left _ hn)
theorem RN.r {a b : List TNode} (h : RN (a ++ b)) : RN b := fun n hn => h n (List.mem_append_right _ hn)
theorem RN.t {x : TNode} {a : List TNode} (h : RN (x :: a)) : RN a := fun n hn => h n (List.mem_cons_of_mem _ hn)
theorem RN.exps : ∀ {l : List Exp}, RN (nodesExps l) → ∀ e ∈ l, RN (nodesExp e)
 | x :: l, h, e, he => by
   simp only [nodesExps] at h
   rcases List.mem_cons.1 he with rfl | he
   ·exact h.l
   ·exact h.r.exps e he
theorem RN.cases : ∀ {l : List Case}, RN (nodesCases l) → ∀ e ∈ l, RN (nodesCase e)
 | x :: l, h, e, he => by
   simp only [nodesCases] at h
   rcases List.mem_cons.1 he with rfl | he
   ·exact h.l
   ·exact h.r.cases e he
theorem RN.decs {i : Bool} : ∀ {l : List Dec}, RN (nodesDecs i l) → ∀ e ∈ l, RN (nodesDec i e)
 | x :: l, h, e, he => by
   simp only [nodesDecs] at h
   rcases List.mem_cons.1 he with rfl | he
   ·exact h.l
   ·exact h.r.decs e he
theorem RN.funs : ∀ {l : List Fun}, RN (nodesFuns l) → ∀ e ∈ l, RN (nodesCase e.case)
 | x :: l, h, e, he => by
   simp only [nodesFuns] at h
   rcases List.mem_cons.1 he with rfl | he
   ·cases e; simp only [nodesFun] at h; exact h.l.t
   ·exact h.r.funs e he
theorem Qi8 {i : Bool} {d : Dec} (h : RN (nodesDec i d)) : (d.kind = 1 → d.case.length = 1) ∧ (d.kind ≠ 1 → d.kind = 2 ∨ d.funs = []) := by
 have hw : wrongDecB d i = 0 := by
  cases d; simp only [nodesDec] at h; exact h _ List.mem_cons_self
 have D := Qcy hw
 refine ⟨fun hk => ?_, fun hk => ?_⟩
 ·have := (D.val hk).1; omega
 ·rcases D.kind with h1 | h1 | h1 | h1
  ·exact absurd h1 hk
  ·exact .inl h1
  ·exact .inr (len0 (D.data h1).2.1)
  ·exact .inr (len0 (D.exn h1).2.1)
end Go.Proofs.YtinphnakebeloaaGreat
namespace Go.Proofs.YtinphnakebeloaaGreat
open Go Go.Am
set_option linter.unusedVariables false
set_option maxRecDepth 4000
section
variable (t : List Place) (tv : AV)
def ExpROK (e : Exp) : Prop := ∀ (bd : List Str) (v : AV) (s : St), (Slot.val v).list? = some (bd.map .str) → bd.length + 2 * e.size < 2^27 → Ret (cw (.f Zz) [tv, e.enc, v] s) s (expR t e bd).enc
def OneROK (c : Case) : Prop := ∀ (bd : List Str) (v : AV) (s : St), (Slot.val v).list? = some (bd.map .str) → bd.length + 2 * c.size < 2^27 → Ret (cw (.f Q5i) [tv, c.enc, v] s) s (oneR t c bd).enc
def DecROK (d : Dec) : Prop := ∀ (bd : List Str) (v : AV) (s : St), (Slot.val v).list? = some (bd.map .str) → bd.length + 2 * d.size < 2^27 → Ret (cw (.f Q3g) [tv, d.enc, v] s) s (decR t d bd).enc
variable (bd : List Str) (v2 : AV)
theorem Q7X (e : Exp) (hs : e.size < 2^27) (x2 : Slot) (hx : x2.av = some v2) (hw : (Slot.val v2).list? = some (bd.map .str)) (s0 : St) : ∀ (suf pre : List Case) (s : St) (i : Nat), pre ++ suf = e.cases → i = pre.length → (∀ q ∈ suf, OneROK t tv q) → bd.length + 2 * Case.sizes suf < 2^27 → Grew s0 s →
  Ret (Q2S (.val tv) x2 (e.cells.map .val) zb (.val (.int .i64 i)) s) s0 (onesR t suf bd).enc
 | [], pre, s, i, hp, hi, H, hn, g => by
   subst hi
   have hend := Q9 (show pre = e.cases by simpa using hp)
   refine ⟨s, ?_, g⟩
   rw [Q4m]
   simp only [go_sem, Nat.reduceAdd, Nat.reduceLeDiff, Exp.cells_eq, List.map_cons, List.map_nil, List.length_map, hend, zb, onesR, TBad.enc, TBad.cells, TBad.zero]
 | q :: suf, pre, s, i, hp, hi, H, hn, g => by
   subst hi
   have hl : e.cases.length < 2^28 := by
    have := Case.len_sizes e.cases
    cases e; simp only [Exp.size, Exp.cases] at *; omega
   obtain ⟨f1, f2, f3⟩ := Q7 (x := .val (encS e.cb (e.cases.map Case.enc))) (Qb _ _) hp (by omega) (Case.cells_len q) (by decide)
   simp only [Case.sizes] at hn
   obtain ⟨s1, e1, g1⟩ := H q List.mem_cons_self bd v2 s hw (by omega)
   have e2 := QC (oneR t q bd) s1
   cases q with
   | mk p b =>
   simp only [Case.enc, Case.cells_mk, Pat.cells_eq, Exp.cells_eq, List.cons_append, List.nil_append, TBad.enc, TBad.cells] at e1 e2
   simp only [onesR]
   by_cases hz : (oneR t (.mk p b) bd).kind = 0
   ·have ih := Q7X e hs x2 hx hw s0 suf (pre ++ [.mk p b]) s1 (pre.length + 1) (by simpa using hp) (by simp) (fun r hr => H r (List.mem_cons_of_mem _ hr)) (by omega) (g.trans g1)
    rw [QY hz]
    rw [decide_eq_true hz] at e2
    rw [Q4m]
    simp only [go_sem, Nat.reduceAdd, Nat.reduceLeDiff, Exp.cells_eq, List.map_cons, List.map_nil, List.length_map, f1, f2, f3, Case.cells_mk, Pat.cells_eq, List.cons_append, List.nil_append, Qh hx, e1, e2, Bool.not_true] at ih ⊢
    exact ih
   ·rw [QS hz]
    rw [decide_eq_false hz] at e2
    refine ⟨s1, ?_, g.trans g1⟩
    rw [Q4m]
    simp only [go_sem, Nat.reduceAdd, Nat.reduceLeDiff, Exp.cells_eq, List.map_cons, List.map_nil, List.length_map, f1, f2, f3, Case.cells_mk, Pat.cells_eq, List.cons_append, List.nil_append, Qh hx, e1, e2, Bool.not_false, zb, TBad.enc, TBad.cells]
theorem Q7V (e : Exp) (hs : e.size < 2^27) (x2 : Slot) (hx : x2.av = some v2) (hw : (Slot.val v2).list? = some (bd.map .str)) (hC : ∀ q ∈ e.cases, OneROK t tv q) (hcn : bd.length + 2 * Case.sizes e.cases < 2^27) (s0 : St) : ∀ (suf pre : List Exp) (s : St) (i : Nat), pre ++ suf = e.kids → i = pre.length → (∀ q ∈ suf, ExpROK t tv q) → bd.length + 2 * Exp.sizes suf < 2^27 → Grew s0 s →
  Ret (Q2R (.val tv) x2 (e.cells.map .val) zb (.val (.int .i64 i)) s) s0 (thenB (expsR t suf bd) (onesR t e.cases bd)).enc
 | [], pre, s, i, hp, hi, H, hn, g => by
   subst hi
   have hend := Q9 (show pre = e.kids by simpa using hp)
   have e1 := Q7X t tv bd v2 e hs x2 hx hw s0 e.cases [] s 0 rfl rfl hC hcn g
   rw [show ((0 : Nat) : Int) = 0 from rfl] at e1
   rw [Q4l]
   simp only [expsR]
   rw [QY rfl]
   simp only [Exp.cells_eq, List.map_cons, List.map_nil] at e1
   simp only [go_sem, Nat.reduceAdd, Nat.reduceLeDiff, Exp.cells_eq, List.map_cons, List.map_nil, List.length_map, hend]
   exact e1
 | q :: suf, pre, s, i, hp, hi, H, hn, g => by
   subst hi
   have hl : e.kids.length < 2^28 := by
    have := Exp.len_sizes e.kids
    cases e; simp only [Exp.size, Exp.kids] at *; omega
   obtain ⟨f1, f2, f3⟩ := Q7 (x := .val (encS e.kb (e.kids.map Exp.enc))) (Qb _ _) hp (by omega) (Exp.cells_len q) (by decide)
   simp only [Exp.sizes] at hn
   obtain ⟨s1, e1, g1⟩ := H q List.mem_cons_self bd v2 s hw (by omega)
   have e2 := QC (expR t q bd) s1
   simp only [Exp.enc, Exp.cells_eq, TBad.enc, TBad.cells] at e1 e2
   simp only [expsR]
   by_cases hz : (expR t q bd).kind = 0
   ·have ih := Q7V e hs x2 hx hw hC hcn s0 suf (pre ++ [q]) s1 (pre.length + 1) (by simpa using hp) (by simp) (fun r hr => H r (List.mem_cons_of_mem _ hr)) (by omega) (g.trans g1)
    rw [QY hz]
    rw [decide_eq_true hz] at e2
    rw [Q4l]
    revert ih
    generalize (thenB (expsR t suf bd) (onesR t e.cases bd)).enc = R
    intro ih
    simp only [go_sem, Nat.reduceAdd, Nat.reduceLeDiff, Exp.cells_eq, List.map_cons, List.map_nil, List.length_map, f1, f2, f3, Qh hx, e1, e2, Bool.not_true] at ih ⊢
    exact ih
   ·rw [QS hz, QS hz]
    rw [decide_eq_false hz] at e2
    refine ⟨s1, ?_, g.trans g1⟩
    rw [Q4l]
    simp only [go_sem, Nat.reduceAdd, Nat.reduceLeDiff, Exp.cells_eq, List.map_cons, List.map_nil, List.length_map, f1, f2, f3, Qh hx, e1, e2, Bool.not_false, zb, TBad.enc, TBad.cells]
end
section
variable (t : List Place) (tv : AV)
theorem Q7U (e : Exp) (hs : e.size < 2^26) (hD : ∀ q ∈ e.decs, DecROK t tv q) (hK : ∀ q ∈ e.kids, ExpROK t tv q) (hC : ∀ q ∈ e.cases, OneROK t tv q) (s0 : St) : ∀ (suf pre : List Dec) (bd : List Str) (x2 : Slot) (v2 : AV) (s : St) (i : Nat), pre ++ suf = e.decs → i = pre.length → x2.av = some v2 → (Slot.val v2).list? = some (bd.map .str) → bd.length + 2 * Dec.sizes suf + 2 * Exp.sizes e.kids + 2 * Case.sizes e.cases < 2^27 → Grew s0 s →
  Ret (Q1I (.val tv) x2 (e.cells.map .val) zb (.val (.int .i64 i)) s) s0 (thenB (decsR t suf bd) (thenB (expsR t e.kids (bd ++ suf.flatMap namesR)) (onesR t e.cases (bd ++ suf.flatMap namesR)))).enc
 | [], pre, bd, x2, v2, s, i, hp, hi, hx, hw, hn, g => by
   subst hi
   have hend := Q9 (show pre = e.decs by simpa using hp)
   simp only [Dec.sizes] at hn
   have e1 := Q7V t tv bd v2 e (by omega) x2 hx hw hC (by omega) s0 e.kids [] s 0 rfl rfl hK (by omega) g
   rw [show ((0 : Nat) : Int) = 0 from rfl] at e1
   rw [Q4k]
   simp only [decsR, List.flatMap_nil, List.append_nil]
   rw [QY rfl]
   simp only [Exp.cells_eq, List.map_cons, List.map_nil] at e1
   revert e1
   generalize (thenB (expsR t e.kids bd) (onesR t e.cases bd)).enc = R
   intro e1
   simp only [go_sem, Nat.reduceAdd, Nat.reduceLeDiff, Exp.cells_eq, List.map_cons, List.map_nil, List.length_map, hend]
   exact e1
 | q :: suf, pre, bd, x2, v2, s, i, hp, hi, hx, hw, hn, g => by
   subst hi
   have hl : e.decs.length < 2^28 := by
    have := Dec.len_sizes e.decs
    cases e; simp only [Exp.size, Exp.decs] at *; omega
   have hqm : q ∈ e.decs := by rw [← hp]; simp
   have hqs : q.size < 2^26 := by
    have := Dec.mem_sizes hqm
    cases e; simp only [Exp.size, Exp.decs] at *; omega
   obtain ⟨f1, f2, f3⟩ := Q7 (x := .val (encS e.db (e.decs.map Dec.enc))) (Qb _ _) hp (by omega) (Dec.cells_len q) (by decide)
   simp only [Dec.sizes] at hn
   obtain ⟨s1, e1, g1⟩ := hD q hqm bd v2 s hw (by omega)
   have e2 := QC (decR t q bd) s1
   simp only [Dec.enc, Dec.cells_eq, TBad.enc, TBad.cells] at e1 e2
   simp only [decsR, List.flatMap_cons]
   rw [← List.append_assoc]
   by_cases hz : (decR t q bd).kind = 0
   ·have hnl := QcN q
    obtain ⟨x3, s3, e3, a3⟩ := Q3J q hqs s1
    obtain ⟨nl, hav3⟩ := a3.av
    obtain ⟨x4, s4, w4, e4, a4, l4, g4⟩ := Q2i bd (namesR q) v2 _ hw (Qb nl _) (by omega) s3
    have ih := Q7U e hs hD hK hC s0 suf (pre ++ [q]) (bd ++ namesR q) x4 w4 s4 (pre.length + 1) (by simpa using hp) (by simp) a4 l4 (by simp only [List.length_append]; omega) (((g.trans g1).trans a3.grew).trans g4)
    rw [QY hz]
    rw [decide_eq_true hz] at e2
    rw [Q4k]
    revert ih
    generalize (thenB (decsR t suf (bd ++ namesR q)) (thenB (expsR t e.kids (bd ++ namesR q ++ suf.flatMap namesR)) (onesR t e.cases (bd ++ namesR q ++ suf.flatMap namesR)))).enc = R
    intro ih
    simp only [Dec.enc, Dec.cells_eq] at e3
    simp only [go_sem, Nat.reduceAdd, Nat.reduceLeDiff, Exp.cells_eq, Dec.cells_eq, List.map_cons, List.map_nil, List.length_map, f1, f2, f3, Qh hx, Qh hav3, e1, e2, e3, e4, Bool.not_true] at ih ⊢
    exact ih
   ·rw [QS hz, QS hz]
    rw [decide_eq_false hz] at e2
    refine ⟨s1, ?_, g.trans g1⟩
    rw [Q4k]
    simp only [go_sem, Nat.reduceAdd, Nat.reduceLeDiff, Exp.cells_eq, Dec.cells_eq, List.map_cons, List.map_nil, List.length_map, f1, f2, f3, Qh hx, e1, e2, Bool.not_false, zb, TBad.enc, TBad.cells]
theorem QgY (h : TabFit t) (hv : (Slot.val tv).list? = some (t.map Place.enc)) (e : Exp) (hs : e.size < 2^26) (hD : ∀ q ∈ e.decs, DecROK t tv q) (hK : ∀ q ∈ e.kids, ExpROK t tv q) (hC : ∀ q ∈ e.cases, OneROK t tv q) (bd : List Str) (v : AV) (s : St) (hw : (Slot.val v).list? = some (bd.map .str)) (hn : bd.length + 2 * e.size < 2^27) : Ret (cw (.f Zz) [tv, e.enc, v] s) s (expR t e bd).enc := by
 cases e with
 | mk k a nm num l lb c cb d db =>
 simp only [Exp.size] at hn
 have L := fun s1 (g : Grew s s1) => Q7U t tv (.mk k a nm num l lb c cb d db) hs hD hK hC s d [] bd (.val v) v s1 0 rfl rfl rfl hw (by simp only [Exp.kids, Exp.cases]; omega) g
 have J : ∀ s1 (g : Grew s s1), Ret (Q1H (.val tv) (.val v) ((Exp.mk k a nm num l lb c cb d db).cells.map .val) zb s1) s (thenB (decsR t d bd) (thenB (expsR t l (bd ++ d.flatMap namesR)) (onesR t c (bd ++ d.flatMap namesR)))).enc := fun s1 g => by
  have hj : Q1H (.val tv) (.val v) ((Exp.mk k a nm num l lb c cb d db).cells.map .val) zb s1 = Q1I (.val tv) (.val v) ((Exp.mk k a nm num l lb c cb d db).cells.map .val) zb (.val (.int .i64 0)) s1 := by rw [Qda]
  rw [hj]
  exact L s1 g
 simp only [Exp.cells_mk, List.map_cons, List.map_nil, zb] at J
 have eIn := Q5N nm bd v hw (by omega) s
 rw [QgX]
 simp only [expR]
 revert J
 generalize (thenB (decsR t d bd) (thenB (expsR t l (bd ++ d.flatMap namesR)) (onesR t c (bd ++ d.flatMap namesR)))) = R
 intro J
 by_cases h2 : k = 2
 ·subst h2
  rw [decide_eq_true rfl, Bool.true_and]
  by_cases hm : nm ∈ bd
  ·rw [decide_eq_true hm] at eIn ⊢
   have j := J s (.refl s)
   simp only [Bool.not_true, cond_false, Int.reduceEq, decide_false, Bool.false_and]
   simp only [go_sem, Int.reduceEq, Nat.reduceAdd, Nat.reduceLeDiff, Exp.enc, Exp.cells_mk, List.map_cons, List.map_nil, decide_true, Int.reduceEq, decide_false, eIn, Bool.not_true]
   exact j
  ·rw [decide_eq_false hm] at eIn ⊢
   refine ⟨s, ?_, .refl s⟩
   simp only [go_sem, Int.reduceEq, Nat.reduceAdd, Nat.reduceLeDiff, Exp.enc, Exp.cells_mk, List.map_cons, List.map_nil, decide_true, Int.reduceEq, decide_false, eIn, Bool.not_false, cond_true, TBad.enc, TBad.cells]
 ·rw [decide_eq_false h2, Bool.false_and, cond_false]
  by_cases h3 : k = 3
  ·subst h3
   obtain ⟨s2, e2, g2⟩ := Q8O t h tv hv nm a l.length s
   have e3 := QC (conR t nm a l.length) s2
   simp only [TBad.enc, TBad.cells] at e2 e3
   rw [decide_eq_true rfl, Bool.true_and]
   by_cases hz : (conR t nm a l.length).kind = 0
   ·rw [decide_eq_true hz] at e3 ⊢
    have j := J s2 g2
    simp only [Bool.not_true, cond_false]
    simp only [go_sem, Int.reduceEq, Nat.reduceAdd, Nat.reduceLeDiff, Exp.enc, Exp.cells_mk, List.map_cons, List.map_nil, List.length_map, Int.reduceEq, decide_false, decide_true, e2, e3, Bool.not_true, Bool.false_and]
    exact j
   ·rw [decide_eq_false hz] at e3 ⊢
    simp only [Bool.not_false, cond_true]
    refine ⟨s2, ?_, g2⟩
    simp only [go_sem, Int.reduceEq, Nat.reduceAdd, Nat.reduceLeDiff, Exp.enc, Exp.cells_mk, List.map_cons, List.map_nil, List.length_map, Int.reduceEq, decide_false, decide_true, e2, e3, Bool.not_false, Bool.false_and, TBad.enc, TBad.cells]
  ·rw [decide_eq_false h3, Bool.false_and, cond_false]
   have j := J s (.refl s)
   simp only [go_sem, Nat.reduceAdd, Nat.reduceLeDiff, Exp.enc, Exp.cells_mk, List.map_cons, List.map_nil, decide_eq_false h2, decide_eq_false h3, Bool.false_and]
   exact j
end
end Go.Proofs.YtinphnakebeloaaGreat