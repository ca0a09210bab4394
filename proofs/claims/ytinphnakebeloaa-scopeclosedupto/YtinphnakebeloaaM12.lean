/- A part of the proof: SScope5, SDecl4, SDecl5, PScope2, SKnows, SScope6. -/
import Derived.Test.YtinphnakebeloaaM10
import Derived.Test.YtinphnakebeloaaM11
set_option linter.unusedVariables false
set_option linter.unusedSimpArgs false
namespace Go.Proofs.Ytinphnakebeloaa
open Go Go.Am
set_option linter.unusedVariables false
set_option maxRecDepth 4000
section
variable {σ : Type} {I : ScI σ} {wl kl : Nat} {A : List Nat} {cf : FuncId} {cc : List AV} {ff : FuncId} {fc : List AV} {R : Nat → σ → List Nat → St → Prop}
theorem Q4Z (H : ScOK I wl kl A cf cc ff fc R) (d : Dec) (hd : d.size < 2^26) {n : Nat} {st : σ} {bd : List Str} {h : List Nat} {s : St} (w : RW R kl (n + (namesD d).length) st bd h s) :
  ∃ x s1 s2 v, cw (.f Z3) [d.enc] s = some (.ret x, s1) ∧ x.av = some v ∧ cw (.f Z6) [.vp wl 0, v] s1 = some (.ret (.val (.fn QA [.cp [v], .cp [.vp wl 0]])), s2) ∧ RW R kl n st (namesD d ++ bd) h s2 ∧ Moves (kl :: A) h h s s2 ∧ BackOK R kl QA [.cp [v], .cp [.vp wl 0]] (namesD d) := by
 have hf := w.few
 obtain ⟨x, s1, h1, e1, a1, g1⟩ := Q50 d hd s
 have hl2 : (Slot.val (encS true ((namesD d).map .str))).list? = some ((namesD d).map .str) := Qc _ _
 obtain ⟨s2, e2, w2, m2⟩ := Q5B H (namesD d) _ hl2 (w.grew H g1)
 exact ⟨x, s1, s2, _, e1, a1.av, e2, w2, (Moves.grew _ _ g1).trans ((m2 _).wider (by simp)), Q5z H (namesD d) _ hl2 (by omega)⟩
def valsCost : List Case → Nat
 | [] => 0
 | .mk p e :: l => p.size + 2 * e.size + valsCost l
theorem Q8Z : ∀ l : List Case, valsCost l + (varsCases l).length ≤ 2 * Case.sizes l
 | [] => by simp [valsCost, varsCases]
 | .mk p e :: l => by
   have h1 := Q2n p
   have h2 := Q8Z l
   simp only [valsCost, varsCases, List.length_append, Case.sizes, Case.size]; omega
theorem Q5F (H : ScOK I wl kl A cf cc ff fc R) (x3 : List Slot) (l : List Case) (y : Slot) (hy : y.list? = some (l.map Case.enc)) (hlen : l.length < 2^40) : ∀ (suf pre : List Case) (n : Nat) (st : σ) (bd : List Str) (h : List Nat) (s : St) (i : Nat), pre ++ suf = l → i = pre.length → (∀ c ∈ suf, ExpWOK I R wl kl A c.exp) → RW R kl (n + valsCost suf) st bd h s →
  ∃ s' h', Zx (.val (.vp wl 0)) x3 y (.val (.int .i64 l.length)) (.val (.int .i64 i)) s = Zx (.val (.vp wl 0)) x3 y (.val (.int .i64 l.length)) (.val (.int .i64 l.length)) s' ∧ RW R kl n (scVals I suf bd st) bd h' s' ∧ Moves (kl :: A) h h' s s'
 | [], pre, n, st, bd, h, s, i, hp, hi, hP, w => by
   subst hi
   have hpl : pre.length = l.length := by rw [← hp]; simp
   exact ⟨s, h, by rw [hpl], by simpa [valsCost, scVals] using w, .refl _ _ _⟩
 | .mk p e :: suf, pre, n, st, bd, h, s, i, hp, hi, hP, w => by
   subst hi
   obtain ⟨f1, f2, f3⟩ := Q7 hy hp (by omega) (Case.cells_len (.mk p e)) (by decide)
   simp only [valsCost] at w
   obtain ⟨s0, h0, e0, w0, m0⟩ := Q7h (n := n + valsCost suf + 2 * e.size) H p (w.le H (by omega)) (st := st)
   obtain ⟨s1, h1, e1, w1, m1⟩ := hP (.mk p e) List.mem_cons_self (n + valsCost suf) _ bd h0 s0 w0
   simp only [Case.exp] at e1 w1 m1
   obtain ⟨s2, h2, e2, w2, m2⟩ := Q5F H x3 l y hy hlen suf (pre ++ [.mk p e]) n _ bd h1 s1 (pre.length + 1) (by simpa using hp) (by simp) (fun q hq => hP q (List.mem_cons_of_mem _ hq)) w1
   refine ⟨s2, h2, ?_, by simpa only [scVals] using w2, (m0.trans m1).trans m2⟩
   rw [← e2, Q33]
   simp only [Pat.enc, Pat.cells_eq] at e0
   simp only [Exp.enc, Exp.cells_eq] at e1
   simp only [go_sem, Nat.reduceAdd, Nat.reduceLeDiff, f1, f2, f3, Case.cells_mk, Pat.cells_eq, Exp.cells_eq, e0, e1]
theorem Q31 (H : ScOK I wl kl A cf cc ff fc R) (x7 : Slot) {hl : Nat} (hA : hl ∉ A) (hk : hl ≠ kl) (l : List Fun) (y : Slot) (hy : y.list? = some (l.map Fun.enc)) (hlen : l.length < 2^40) : ∀ (suf pre : List Fun) (n : Nat) (had : List Str) (st : σ) (bd : List Str) (h : List Nat) (s : St) (i : Nat), pre ++ suf = l → i = pre.length → (∀ f ∈ suf, CaseWOK I R wl kl A f.case) → PW R kl hl (n + 2 * Fun.sizes suf - suf.length) (had, st) bd h s →
  ∃ s' h', Zy (.val (.vp wl 0)) x7 (.val (.mp hl)) y (.val (.int .i64 l.length)) (.val (.int .i64 i)) s = some (.ret x7, s') ∧ RW R kl n (scFuns I suf bd had st) bd h' s' ∧ Moves (hl :: kl :: A) h h' s s'
 | [], pre, n, had, st, bd, h, s, i, hp, hi, hP, w => by
   subst hi
   rw [Q1g]; simp only [go_sem, Q8 (by simpa using hp)]
   exact ⟨s, h, rfl, by simpa [Fun.sizes, scFuns] using w.w, .refl _ _ _⟩
 | .mk nm a c :: suf, pre, n, had, st, bd, h, s, i, hp, hi, hP, w => by
   subst hi
   obtain ⟨f1, f2, f3⟩ := Q7 hy hp (by omega) (Fun.cells_len (.mk nm a c)) (by decide)
   have hsz := Fun.len_sizes suf
   simp only [Fun.sizes, Fun.size, List.length_cons] at w
   have hf : had.length + (n + 2 * (c.size + 1 + Fun.sizes suf) - (suf.length + 1)) < 2^40 := w.few
   obtain ⟨s1, e1, e2, w1, k1, m1⟩ := PW.had (n := n + 2 * Fun.sizes suf - suf.length + 2 * c.size) H hA hk ⟨w.w.le H (by omega), w.kn, by simp only; omega⟩ nm
   have g2 := w.kn.get nm
   have hlow : hl ∉ kl :: A := by simp only [List.mem_cons, not_or]; exact ⟨hk, hA⟩
   by_cases hm : nm ∈ had
   ·obtain ⟨s2, h2, e3, r3, m3⟩ := H.fail 9 nm a w1.r
    have w3 := w1.of H r3 (by omega) m3
    obtain ⟨s4, h4, e4, w4, m4⟩ := hP (.mk nm a c) List.mem_cons_self (n + 2 * Fun.sizes suf - suf.length) _ bd h2 s2 w3
    simp only [Fun.case] at e4 w4 m4
    obtain ⟨s5, h5, e5, w5, m5⟩ := Q31 H x7 hA hk l y hy hlen suf (pre ++ [.mk nm a c]) n (had ++ [nm]) _ bd h4 s4 (pre.length + 1) (by simpa using hp) (by simp) (fun q hq => hP q (List.mem_cons_of_mem _ hq)) ⟨w4, (k1.moves m3 hA).moves m4 hlow, by simp only [List.length_append, List.length_cons, List.length_nil]; omega⟩
    refine ⟨s5, h5, ?_, by simpa only [scFuns, hm, if_true] using w5, (((m1.wider (by simp +contextual)).trans (m3.wider (by simp +contextual))).trans (m4.wider (by simp +contextual))).trans m5⟩
    rw [← e5, Q1g]
    cases c with
    | mk p e =>
    simp only [Case.enc, Case.cells_mk, Pat.cells_eq, Exp.cells_eq, List.cons_append, List.nil_append] at e4
    simp only [go_sem, Nat.reduceAdd, Nat.reduceLeDiff, f1, f2, f3, Fun.cells_mk, Case.cells_mk, Pat.cells_eq, Exp.cells_eq, g2, e1, e2, Q5k, hm, decide_true, e3, e4]
   ·obtain ⟨s4, h4, e4, w4, m4⟩ := hP (.mk nm a c) List.mem_cons_self (n + 2 * Fun.sizes suf - suf.length) _ bd h s1 (w1.le H (by simp only [Fun.case]; omega))
    simp only [Fun.case] at e4 w4 m4
    obtain ⟨s5, h5, e5, w5, m5⟩ := Q31 H x7 hA hk l y hy hlen suf (pre ++ [.mk nm a c]) n (had ++ [nm]) _ bd h4 s4 (pre.length + 1) (by simpa using hp) (by simp) (fun q hq => hP q (List.mem_cons_of_mem _ hq)) ⟨w4, k1.moves m4 hlow, by simp only [List.length_append, List.length_cons, List.length_nil]; omega⟩
    refine ⟨s5, h5, ?_, by simpa only [scFuns, hm, if_false] using w5, ((m1.wider (by simp +contextual)).trans (m4.wider (by simp +contextual))).trans m5⟩
    rw [← e5, Q1g]
    cases c with
    | mk p e =>
    simp only [Case.enc, Case.cells_mk, Pat.cells_eq, Exp.cells_eq, List.cons_append, List.nil_append] at e4
    simp only [go_sem, Nat.reduceAdd, Nat.reduceLeDiff, f1, f2, f3, Fun.cells_mk, Case.cells_mk, Pat.cells_eq, Exp.cells_eq, g2, e1, e2, Q5k, hm, decide_false, e4]
theorem Qf1 (d : Dec) : (namesD d).length ≤ (bif decide (d.kind = 1) then varsCases d.case else bif decide (d.kind = 2) then d.funs.map Fun.name else []).length := by
 have := (Q1R (bif decide (d.kind = 1) then varsCases d.case else bif decide (d.kind = 2) then d.funs.map Fun.name else []) []).2
 rw [List.length_nil, Nat.zero_add] at this
 exact this
theorem Qdm (H : ScOK I wl kl A cf cc ff fc R) (d : Dec) (hsz : d.size < 2^26) (hE : ∀ c ∈ d.case, ExpWOK I R wl kl A c.exp) (hC : ∀ f ∈ d.funs, CaseWOK I R wl kl A f.case) : DecWOK I R wl kl A d := by
 intro n st bd h s w
 cases d with
 | mk k a nm pr l lb c cb f fb =>
 have hn := Qf1 (.mk k a nm pr l lb c cb f fb)
 have hlc := Case.len_sizes c
 have hlf := Fun.len_sizes f
 simp only [Dec.size] at w hsz
 simp only [Dec.kind, Dec.case, Dec.funs] at hn hE hC
 rw [Q8r]
 simp only [scDec]
 by_cases h1 : k = 1
 ·subst h1
  have hc := Q8Z c
  simp only [decide_true, cond_true] at hn
  obtain ⟨s1, h1', e1, w1, m1⟩ := Q5F H ((Dec.mk 1 a nm pr l lb c cb f fb).cells.map .val) c (.val (encS cb (c.map Case.enc))) (Qc _ _) (by omega) c [] (n + (namesD (.mk 1 a nm pr l lb c cb f fb)).length) st bd h s 0 rfl rfl hE (w.le H (by omega))
  obtain ⟨x, s2, s3, v, e2, av, e3, w3, m3, B⟩ := Q4Z H (.mk 1 a nm pr l lb c cb f fb) (by simp only [Dec.size]; omega) w1
  refine ⟨s3, h1', _, _, _, ?_, w3, m1.trans m3, rfl, B⟩
  rw [show ((0 : Nat) : Int) = 0 from rfl] at e1
  rw [Q33 (s_1 := s1)] at e1
  have d1 : decide ((c.length : Int) < (c.length : Int)) = false := by simp
  simp only [Dec.enc, Dec.cells_mk, List.map_cons, List.map_nil] at e1 e2
  simp only [go_sem, Nat.reduceAdd, Nat.reduceLeDiff, d1, e2, Qu av, e3] at e1
  simp only [go_sem, Int.reduceEq, Nat.reduceAdd, Nat.reduceLeDiff, Dec.enc, Dec.cells_mk, List.map_cons, List.map_nil, decide_true, List.length_map]
  exact e1
 ·by_cases h2 : k = 2
  ·subst h2
   simp only [decide_true, cond_true, cond_false, List.length_map, Int.reduceEq, decide_false] at hn
   obtain ⟨x, s2, s3, v, e2, av, e3, w3, m3, B⟩ := Q4Z (n := n + 2 * Fun.sizes f - f.length) H (.mk 2 a nm pr l lb c cb f fb) (by simp only [Dec.size]; omega) (w.le H (by omega))
   have g : Grew s3 (s3.addLoc (.map [] 0)) := (Grew.refl _).addLoc _
   obtain ⟨s4, h4, e4, w4, m4⟩ := Q31 H (.val (.fn QA [.cp [v], .cp [.vp wl 0]])) (hl := s3.locs.length) (fun hm => by have := H.low w3.r _ hm; omega) (fun e => by have := w3.kn.lt; omega) f (.val (encS fb (f.map Fun.enc))) (Qc _ _) (by omega) f [] n [] st _ h (s3.addLoc (.map [] 0)) 0 rfl rfl hC ⟨w3.grew H g, KN.new s3, by have := w3.few; simp only [List.length_nil]; omega⟩
   refine ⟨s4, h4, _, _, _, ?_, w4, (m3.trans (Moves.grew _ _ g)).next m4 fun i hi => ?_, rfl, B⟩
   ·rw [show ((0 : Nat) : Int) = 0 from rfl] at e4
    rw [← e4]
    simp only [Dec.enc, Dec.cells_mk, List.map_cons, List.map_nil] at e2
    simp only [go_sem, Int.reduceEq, Nat.reduceAdd, Nat.reduceLeDiff, Dec.enc, Dec.cells_mk, List.map_cons, List.map_nil, Int.reduceEq, decide_false, decide_true, e2, Qu av, e3, List.length_map]
   ·rcases List.mem_cons.1 hi with rfl | hi
    ·exact .inr (by have := m3.ll; omega)
    ·exact .inl hi
  ·refine ⟨s, h, Q0r, [], [], ?_, by simpa [h1, h2] using w.le H (by omega), .refl _ _ _, by simp [h1, h2], Qak⟩
   simp only [go_sem, Nat.reduceAdd, Nat.reduceLeDiff, Dec.enc, Dec.cells_mk, List.map_cons, List.map_nil, decide_eq_false h1, decide_eq_false h2]
theorem Q3F (H : ScOK I wl kl A cf cc ff fc R) : ∀ (m : Nat), (∀ e : Exp, e.size ≤ m → e.size < 2^26 → ExpWOK I R wl kl A e) ∧ (∀ c : Case, c.size ≤ m → c.size < 2^26 → CaseWOK I R wl kl A c) ∧ ∀ d : Dec, d.size ≤ m → d.size < 2^26 → DecWOK I R wl kl A d
 | 0 => ⟨fun e h => by cases e; simp only [Exp.size] at h; omega, fun c h => by cases c with | mk p e => cases e; simp only [Case.size, Exp.size] at h; omega, fun d h => by cases d; simp only [Dec.size] at h; omega⟩
 | m + 1 => by
   obtain ⟨iE, iC, iD⟩ := Q3F H m
   have hE : ∀ e : Exp, e.size ≤ m + 1 → e.size < 2^26 → ExpWOK I R wl kl A e := fun e h h' => by
    cases e with
    | mk k a nm n l lb c cb d db =>
    simp only [Exp.size] at h h'
    exact Qdo H _ (by simp only [Exp.size]; omega) (fun q hq => by
      have := Dec.mem_sizes hq
      simp only [Exp.decs] at this
      exact iD q (by omega) (by omega)) (fun q hq => by
      have := Exp.mem_sizes hq
      simp only [Exp.kids] at this
      exact iE q (by omega) (by omega)) (fun q hq => by
      have := Case.mem_sizes hq
      simp only [Exp.cases] at this
      exact iC q (by omega) (by omega))
   refine ⟨hE, fun c h h' => ?_, fun d h h' => ?_⟩
   ·cases c with
    | mk p e =>
    simp only [Case.size] at h h'
    exact Qaj H p e (hE e (by omega) (by omega)) (by omega)
   ·cases d with
    | mk k a nm p l lb c cb f fb =>
    simp only [Dec.size] at h h'
    refine Qdm H _ (by simp only [Dec.size]; omega) (fun q hq => ?_) (fun q hq => ?_)
    ·have := Case.mem_sizes hq
     simp only [Dec.case] at this
     cases q with
     | mk p e => simp only [Case.size] at this; exact iE _ (by simp only [Case.exp]; omega) (by simp only [Case.exp]; omega)
    ·have := Fun.mem_sizes hq
     simp only [Dec.funs] at this
     cases q with
     | mk s a c => simp only [Fun.size] at this; exact iC _ (by simp only [Fun.case]; omega) (by simp only [Fun.case]; omega)
end
end Go.Proofs.Ytinphnakebeloaa
namespace Go.Proofs.Ytinphnakebeloaa
open Go Go.Am
set_option linter.unusedVariables false
set_option maxRecDepth 4000
theorem Q91 (n : Nat) : ∀ t ∈ varsTy n, WideTy t := by
 intro t ht
 obtain ⟨i, _, rfl⟩ := List.mem_map.1 ht
 exact QbR _
theorem Q65 (d : Dec) (hp : d.params < 2^28) (s0 : St) : ∀ (k i : Nat) (x : Slot) (s : St), AccH Q4 s0.toks.length [] s x ((varsTy i).map Ty.enc) → Moves [] [] [] s0 s → i + k = d.params.toNat →
  Ret (Q0O (d.cells.map .val) (Ty.zero.cells.map .val) x (.val (.int .i64 d.params)) (.val (.int .i64 i)) s) s0 (.tup [(ofTy d.name (varsTy d.params.toNat)).enc, .int .i64 d.params])
 | 0, i, x, s, a, m, h => by
   have hi : i = d.params.toNat := by omega
   have hd : decide ((i : Int) < d.params) = false := by simp only [decide_eq_false_iff_not]; omega
   rw [Q5o]
   have hav := a.av
   obtain ⟨s1, e1, g1⟩ := Q4w d.name (varsTy i) (encS true ((varsTy i).map Ty.enc)) (Qc _ _) (by simp only [varsTy, List.length_map, List.length_range]; omega) (Q91 i) s
   subst hi
   simp only [Ty.enc, Ty.cells_eq] at e1
   simp only [go_sem, Nat.reduceAdd, Nat.reduceLeDiff, hd, Dec.cells_eq, List.map_cons, List.map_nil, Qu hav, e1, Ty.enc, Ty.cells_eq]
   exact ⟨s1, rfl, m.toGrew.trans g1⟩
 | k + 1, i, x, s, a, m, h => by
   have hd : decide ((i : Int) < d.params) = true := by simp only [decide_eq_true_eq]; omega
   obtain ⟨x2, s2, e2, a2, m2, -, -, -⟩ := tyAcc (B := [tvar (i : Int)]) a m (by simp) (y := .full [(tvar (i : Int)).enc]) rfl (by simp only [varsTy, List.length_map, List.length_range, List.length_singleton]; omega)
   have hv : varsTy i ++ [tvar (i : Int)] = varsTy (i + 1) := by simp [varsTy, List.range_succ]
   rw [hv] at a2
   have ih := Q65 d hp s0 k (i + 1) x2 s2 a2 m2 (by omega)
   rw [Q5o]
   simp only [tvar, Ty.enc, Ty.cells_mk, List.map_nil, Q4L] at e2
   simp only [go_sem, Nat.reduceAdd, Nat.reduceLeDiff, hd, e2, Q5e (show i < 2^62 by omega)]
   exact ih
theorem QaZ (d : Dec) (hp : d.params < 2^28) (s : St) : Ret (cw (.f Q27) [d.enc] s) s (.tup [(headD d).1.enc, .int .i64 (headD d).2]) := by
 rw [Q4I]
 by_cases h4 : d.kind = 4
 ·obtain ⟨s1, e1, g1⟩ := Q4w sExn [] .nils rfl (by simp) (by simp) s
  refine ⟨s1, ?_, g1⟩
  simp only [sExn, Ty.enc, Ty.cells_eq] at e1
  simp only [go_sem, Nat.reduceAdd, Nat.reduceLeDiff, Dec.enc, Dec.cells_eq, List.map_cons, List.map_nil, h4, decide_true, sExn, e1, headD, cond_true, Ty.enc, Ty.cells_eq]
 ·have e1 := Q65 d hp s d.params.toNat 0 (.val .nils) s (AccH.nil _ _ _ _) (.refl _ _ _) (by omega)
  rw [show ((0 : Nat) : Int) = 0 from rfl] at e1
  have e0 : cw (.f Q27) [d.enc] s = Q0O (d.cells.map .val) (Ty.zero.cells.map .val) (.val .nils) (.val (.int .i64 d.params)) (.val (.int .i64 0)) s := by
   rw [Q4I]
   simp only [go_sem, Nat.reduceAdd, Dec.enc, Dec.cells_eq, List.map_cons, List.map_nil, decide_eq_false h4, Ty.zero]
  rw [← Q4I, e0]
  simpa only [headD, decide_eq_false h4, cond_false] using e1
theorem AccR.kset {e : TypeId} {s0 s s' : St} {x : Slot} {l : List AV} {ml : Nat} (a : AccR e s0 s x l) (m : ∀ hs, Moves [ml] hs hs s s') (t : s'.toks = s.toks) (h : s0.locs.length ≤ ml) : AccR e s0 s' x l :=
 a.relay t ((Moves.grew [] [] a.grew).since (m []) (fun i hi => by simp at hi; subst hi; exact .inr h) (by simp)).toGrew.1
def RetT (r : Res) (s0 : St) (o : List Place × TBad) : Prop := ∃ s' w, r = some (.ret (.val (.tup [w, o.2.enc])), s') ∧ (Slot.val w).list? = some (o.1.map Place.enc) ∧ Grew s0 s'
theorem Qi7 {a b : Ty} (ha : WideTy a) (hb : WideTy b) : WideTy (fnTy a b) := by
 unfold fnTy ofTy
 refine Q8n (by simp) fun t ht => ?_
 simp only [List.map_cons, List.map_nil, List.mem_cons, List.not_mem_nil, or_false] at ht
 rcases ht with rfl | rfl
 ·exact Q5c _ ha
 ·exact Q5c _ hb
def zb : List Slot := [.val (.int .i64 0), .val (.int .i64 0), .val (.str [])]
theorem Q9K (b : TBad) (hb : b.kind ≠ 0) (x6 : Slot) (s : St) : Q1r zb x6 (b.cells.map .val) s = some (.ret (.val (.tup [.nils, b.enc])), s) := by
 rw [Q61]
 simp only [go_sem, Nat.reduceAdd, Nat.reduceLeDiff, TBad.cells, List.map_cons, List.map_nil, zb, decide_eq_false hb, Bool.not_false]
 rfl
theorem QaW (x6 : Slot) (v : AV) (hv : x6.av = some v) (s : St) : Q1r zb x6 zb s = some (.ret (.val (.tup [v, TBad.zero.enc])), s) := by
 rw [Q61]
 simp only [go_sem, Nat.reduceAdd, Nat.reduceLeDiff, TBad.cells, TBad.zero, zb, Q7x hv]
 rfl
section
variable (d : Dec) (g : Str → Option Int) (res : Ty) (vars : Int) (data : Str) (of_ : Int) (tl ml : Nat) (s0 : St)
noncomputable abbrev addL1 (x : Slot) (tag : Int) (i : Nat) (s : St) : Res := Q2a (d.cells.map .val) zb x (.val (.mp tl)) (.val (.mp ml)) (.val (.int .i64 tag)) (.val (.int .i64 of_)) (.val (.str data)) (res.cells.map .val) (.val (.int .i64 vars)) zb (.val (encS d.nb (d.cons.map Con.enc))) (.val (.int .i64 d.cons.length)) (.val (.int .i64 i)) s
noncomputable abbrev addJ1 (c : Con) (e : Int) (nm : Str) (x : Slot) (tag : Int) (i : Nat) (s : St) : Res := Q03 (d.cells.map .val) zb x (.val (.mp tl)) (.val (.mp ml)) (.val (.int .i64 tag)) (.val (.int .i64 of_)) (.val (.str data)) (res.cells.map .val) (.val (.int .i64 vars)) zb (c.cells.map .val) (.val (.int .i64 e)) (.val (.str nm)) (.val (encS d.nb (d.cons.map Con.enc))) (.val (.int .i64 d.cons.length)) (.val (.int .i64 i)) s
structure AddAt (s : St) (x : Slot) (met : List Str) (out : List Place) : Prop where
 acc : AccR Qd s0 s x (out.map Place.enc)
 map : MapSI s tl g
 kn : KN s ml met
variable {g tl ml s0}
theorem MapSI.at {s s' : St} {loc : Nat} {g : Str → Option Int} (h : MapSI s loc g) (e : s'.locs = s.locs) : MapSI s' loc g := by
 obtain ⟨es, c, D, h1, h2⟩ := h
 exact ⟨es, c, D, by rw [e]; exact h1, h2⟩
theorem AddAt.move {s s' : St} {x : Slot} {met : List Str} {out : List Place} (h : AddAt g tl ml s0 s x met out) (k : Grew s s') : AddAt g tl ml s0 s' x met out := ⟨h.acc.move k, h.map.move k, h.kn.moves (Moves.grew [] [] k) (by simp)⟩
theorem Q9J (c : Con) (e : Int) (he : e ≠ 0) (nm : Str) (x : Slot) (tag : Int) (i : Nat) (s : St) : addJ1 d res vars data of_ tl ml c e nm x tag i s = some (.ret (.val (.tup [.nils, (⟨e, c.at_, nm⟩ : TBad).enc])), s) := by
 have e1 := Q9K ⟨e, c.at_, nm⟩ he x s
 simp only [TBad.cells, List.map_cons, List.map_nil] at e1
 rw [← e1, addJ1, Q3A]
 simp only [go_sem, Nat.reduceAdd, Nat.reduceLeDiff, Con.cells, Ty.cells_eq, TBad.cells, List.map_cons, List.map_nil, zb, decide_eq_false he, Bool.not_false]
theorem QaV (hr : WideTy res) (hne : ml ≠ tl) (h1 : s0.locs.length ≤ tl) (h2 : s0.locs.length ≤ ml) (c : Con) (hc : WideTy c.arg) (nm : Str) (x : Slot) (tag : Int) (i : Nat) (s : St) (met : List Str) (out : List Place) (a : AddAt g tl ml s0 s x met out) (ho : out.length < 2^28) (hm : met.length < 2^40) (ht0 : 0 ≤ tag) (ht : tag < 2^40) (hi : i < 2^40) :
  ∃ x' s', addJ1 d res vars data of_ tl ml c 0 nm x tag i s = addL1 d res vars data of_ tl ml x' (tag + 1) (i + 1) s' ∧ AddAt g tl ml s0 s' x' (met ++ [c.name]) (out ++ [conPlace res vars data tag of_ c]) := by
 obtain ⟨s1, e1, k1, m1, t1, -⟩ := a.kn.inc c.name (by omega)
 have a1 : AddAt g tl ml s0 s1 x (met ++ [c.name]) out := ⟨AccR.kset a.acc m1 t1 h2, a.map.moves (m1 []) (by simpa using Ne.symm hne), k1⟩
 obtain ⟨s2, e2, g2⟩ := Qe8 res [] true s1 hr (by simp) (by simp)
 have a2 := a1.move g2
 have w1 : IntKind.i64.wrap (tag + 1) = tag + 1 := wrap64 (by omega) (by omega)
 have w2 := Q5e (show i < 2^62 by omega)
 have gk := a.kn.get c.name
 simp only [List.map_nil, Q4L] at e2
 cases hh : c.has with
 | true =>
   obtain ⟨s3, e3, g3⟩ := Qfc c.arg res s2 hc hr
   have a3 := a2.move g3
   obtain ⟨x', s4, e4, r4⟩ := placeAcc a3.acc (conPlace res vars data tag of_ c) (by omega)
   refine ⟨x', s4, ?_, ⟨r4, ?_, ?_⟩⟩
   ·rw [addJ1, Q3A]
    simp only [Ty.enc, Ty.cells_eq] at e2 e3
    simp only [Place.enc, Place.cells_eq, conPlace, hh, cond_true] at e4
    simp only [go_sem, Nat.reduceAdd, Nat.reduceLeDiff, Con.cells, Ty.cells_eq, List.map_cons, List.map_nil, hh, gk, e1, e2, e3]
    rw [Q62]
    simp only [go_sem, Nat.reduceAdd, Nat.reduceLeDiff, hh, e4, w1, w2]
    simp only [addL1, Ty.cells_eq, List.map_cons, List.map_nil]
   ·exact a3.map.at (Q1E e4)
   ·exact a3.kn.at (by rw [Q1E e4])
 | false =>
   obtain ⟨x', s4, e4, r4⟩ := placeAcc a2.acc (conPlace res vars data tag of_ c) (by omega)
   refine ⟨x', s4, ?_, ⟨r4, a2.map.at (Q1E e4), a2.kn.at (by rw [Q1E e4])⟩⟩
   rw [addJ1, Q3A]
   simp only [Ty.enc, Ty.cells_eq] at e2
   simp only [Place.enc, Place.cells_eq, conPlace, hh, cond_false] at e4
   simp only [go_sem, Nat.reduceAdd, Nat.reduceLeDiff, Con.cells, Ty.cells_eq, List.map_cons, List.map_nil, hh, gk, e1, e2]
   rw [Q62]
   simp only [go_sem, Nat.reduceAdd, Nat.reduceLeDiff, hh, e4, w1, w2]
   simp only [addL1, Ty.cells_eq, List.map_cons, List.map_nil]
theorem Q4G (hr : WideTy res) (hne : ml ≠ tl) (h1 : s0.locs.length ≤ tl) (h2 : s0.locs.length ≤ ml) (hl : d.cons.length < 2^26) (hw : ∀ c ∈ d.cons, WideTy c.arg) : ∀ (suf pre : List Con) (met : List Str) (tag : Int) (out : List Place) (x : Slot) (s : St) (i : Nat), pre ++ suf = d.cons → i = pre.length → AddAt g tl ml s0 s x met out → out.length + suf.length < 2^28 → met.length + suf.length < 2^40 → 0 ≤ tag → tag + suf.length < 2^40 →
  RetT (addL1 d res vars data of_ tl ml x tag i s) s0 (consD d.kind g res vars data of_ suf met tag out)
 | [], pre, met, tag, out, x, s, i, hp, hi, a, ho, hm, ht0, ht => by
   subst hi
   obtain ⟨nl, hav⟩ := a.acc.av
   refine ⟨s, _, ?_, Qc nl _, a.acc.grew⟩
   rw [addL1, Q0c]; simp only [go_sem, Q8 (by simpa using hp), QaW x _ hav]
   rfl
 | c :: suf, pre, met, tag, out, x, s, i, hp, hi, a, ho, hm, ht0, ht => by
   subst hi
   obtain ⟨f1, f2, f3⟩ := Q7 (x := .val (encS d.nb (d.cons.map Con.enc))) (Qc _ _) hp (by omega) (Con.cells_len c) (by decide)
   have hlt : pre.length < d.cons.length := by rw [← hp]; simp
   have hcm : c ∈ d.cons := by rw [← hp]; simp
   simp only [List.length_cons] at ho hm ht
   have gk := a.kn.get c.name
   have hcnt : decide (((met.count c.name : Nat) : Int) > 0) = decide (c.name ∈ met) := by
    rw [decide_eq_decide]
    constructor
    ·intro h; exact List.count_pos_iff.1 (by omega)
    ·intro h; have := List.count_pos_iff.2 h; omega
   have bad : ∀ e nm s', e ≠ 0 → Grew s0 s' → conBad d.kind g vars tag met c = (e, nm) → addL1 d res vars data of_ tl ml x tag pre.length s = addJ1 d res vars data of_ tl ml c e nm x tag pre.length s' → RetT (addL1 d res vars data of_ tl ml x tag pre.length s) s0 (consD d.kind g res vars data of_ (c :: suf) met tag out) := fun e nm s' he hg hc hq => by
    refine ⟨s', .nils, ?_, ?_, hg⟩
    ·rw [hq, Q9J _ _ _ _ _ _ _ he]
     simp only [consD, hc]; rw [if_pos he]
    ·simp only [consD, hc]; rw [if_pos he]; rfl
   have good : ∀ nm s', AddAt g tl ml s0 s' x met out → (conBad d.kind g vars tag met c).1 = 0 → addL1 d res vars data of_ tl ml x tag pre.length s = addJ1 d res vars data of_ tl ml c 0 nm x tag pre.length s' → RetT (addL1 d res vars data of_ tl ml x tag pre.length s) s0 (consD d.kind g res vars data of_ (c :: suf) met tag out) := fun nm s' ha hc hq => by
    obtain ⟨x', s2, e2, a2⟩ := QaV d res vars data of_ hr hne h1 h2 c (hw c hcm) nm x tag pre.length s' met out ha (by omega) (by omega) ht0 (by omega) (by omega)
    have ih := Q4G hr hne h1 h2 hl hw suf (pre ++ [c]) (met ++ [c.name]) (tag + 1) (out ++ [conPlace res vars data tag of_ c]) x' s2 (pre.length + 1) (by simpa using hp) (by simp) a2 (by simp only [List.length_append, List.length_cons, List.length_nil]; omega) (by simp only [List.length_append, List.length_cons, List.length_nil]; omega) (by omega) (by omega)
    rw [hq, e2]
    simp only [consD]; rw [if_neg (by simpa using hc)]
    exact ih
   by_cases hmem : c.name ∈ met
   ·refine bad 9 c.name s (by decide) a.acc.grew (by simp only [conBad, hmem, if_true]) ?_
    rw [addL1, Q0c]
    simp only [go_sem, Nat.reduceAdd, Nat.reduceLeDiff, addJ1, f1, f2, Con.cells, Ty.cells_eq, List.map_cons, List.map_nil, gk, hcnt, hmem, decide_true]
   ·cases hx : (decide (d.kind = 4) && decide (tag > 1023)) with
    | true =>
      refine bad 19 c.name s (by decide) a.acc.grew (by simp only [conBad, hmem, if_false, hx, cond_true]) ?_
      rw [addL1, Q0c]
      simp only [go_sem, Nat.reduceAdd, Nat.reduceLeDiff, addJ1, f1, f2, Con.cells, Ty.cells_eq, Dec.cells_eq, List.map_cons, List.map_nil, gk, hcnt, hmem, decide_false, hx]
    | false =>
      cases hh : c.has with
      | true =>
        obtain ⟨s1, e1, g1⟩ := Q9N g vars c.arg (hw c hcm) tl s a.map
        have e1' := e1
        simp only [Ty.enc, Ty.cells_eq] at e1'
        by_cases hz : (wrongD g vars c.arg).1 = 0
        ·refine good c.name s1 (a.move g1) (by simp only [conBad, hmem, if_false, hx, cond_false, hh, cond_true, hz, ne_eq, not_true_eq_false, if_false]) ?_
         rw [addL1, Q0c]
         simp only [go_sem, Nat.reduceAdd, Nat.reduceLeDiff, addJ1, f1, f2, Con.cells, Ty.cells_eq, Dec.cells_eq, List.map_cons, List.map_nil, gk, hcnt, hmem, decide_false, hx, hh, e1', hz, decide_true, Bool.not_true]
        ·refine bad (wrongD g vars c.arg).1 (wrongD g vars c.arg).2 s1 hz (a.acc.grew.trans g1) (by simp only [conBad, hmem, if_false, hx, cond_false, hh, cond_true, hz, ne_eq, not_false_eq_true, if_true]) ?_
         rw [addL1, Q0c]
         simp only [go_sem, Nat.reduceAdd, Nat.reduceLeDiff, addJ1, f1, f2, Con.cells, Ty.cells_eq, Dec.cells_eq, List.map_cons, List.map_nil, gk, hcnt, hmem, decide_false, hx, hh, e1', decide_eq_false hz, Bool.not_false]
      | false =>
        refine good c.name s a (by simp only [conBad, hmem, if_false, hx, cond_false, hh]) ?_
        rw [addL1, Q0c]
        simp only [go_sem, Nat.reduceAdd, Nat.reduceLeDiff, addJ1, f1, f2, Con.cells, Ty.cells_eq, Dec.cells_eq, List.map_cons, List.map_nil, gk, hcnt, hmem, decide_false, hx, hh]
end
end Go.Proofs.Ytinphnakebeloaa
namespace Go.Proofs.Ytinphnakebeloaa
open Go Go.Am
set_option linter.unusedVariables false
set_option maxRecDepth 4000
theorem Q6A (d : Dec) (h : d.params < 2^28) : WideTy (headD d).1 := by
 unfold headD
 cases decide (d.kind = 4) with
 | true => exact Q8n (by simp) (by simp)
 | false =>
   refine Q8n (by simp only [List.length_map, varsTy, List.length_range]; omega) fun t ht => ?_
   obtain ⟨u, hu, rfl⟩ := List.mem_map.1 ht
   exact Q5c _ (Q91 _ u hu)
section
variable (d : Dec) (t : List Place) {tl ml : Nat} {s0 : St}
theorem Q4E (g : Str → Option Int) (data : Str) (of_ : Int) (hp : d.params < 2^28) (hne : ml ≠ tl) (h1 : s0.locs.length ≤ tl) (h2 : s0.locs.length ≤ ml) (hl : d.cons.length < 2^26) (hw : ∀ c ∈ d.cons, WideTy c.arg) (met : List Str) (tag : Int) (out : List Place) (x : Slot) (s : St) (a : AddAt g tl ml s0 s x met out) (ho : out.length < 2^27) (hm : met.length < 2^27) (ht0 : 0 ≤ tag) (ht : tag < 2^30) :
  RetT (Q1q (d.cells.map .val) zb x (.val (.mp tl)) (.val (.mp ml)) (.val (.int .i64 tag)) (.val (.int .i64 of_)) (.val (.str data)) s) s0 (consD d.kind g (headD d).1 (headD d).2 data of_ d.cons met tag out) := by
 obtain ⟨s1, e1, g1⟩ := QaZ d hp s
 have e2 := Q4G d (headD d).1 (headD d).2 data of_ (Q6A d hp) hne h1 h2 hl hw d.cons [] met tag out x s1 0 rfl rfl (a.move g1) (by omega) (by omega) ht0 (by omega)
 have e3 : Q1q (d.cells.map .val) zb x (.val (.mp tl)) (.val (.mp ml)) (.val (.int .i64 tag)) (.val (.int .i64 of_)) (.val (.str data)) s = addL1 d (headD d).1 (headD d).2 data of_ tl ml x tag 0 s1 := by
  rw [QaU]
  simp only [Dec.enc, Dec.cells_eq, Ty.enc, Ty.cells_eq] at e1
  simp only [go_sem, Nat.reduceAdd, Nat.reduceLeDiff, addL1, Dec.cells_eq, Ty.cells_eq, List.map_cons, List.map_nil, e1, List.length_map, zb]
  rfl
 rw [e3]
 exact e2
def tagOf (d : Dec) (l : List Place) : Nat := bif decide (d.kind = 4) then exns l else 0
theorem QcH (a b : List Place) : exns (a ++ b) = exns a + exns b := by simp [exns]
theorem Qeo (a : List Place) : exns a ≤ a.length := List.length_filter_le _ _
theorem Q4F (hp : d.params < 2^28) (hne : ml ≠ tl) (h1 : s0.locs.length ≤ tl) (h2 : s0.locs.length ≤ ml) (hl : d.cons.length < 2^26) (hw : ∀ c ∈ d.cons, WideTy c.arg) (htl : t.length < 2^26) (y : Slot) (hy : y.list? = some (t.map Place.enc)) (x : Slot) : ∀ (suf pre : List Place) (s : St) (i : Nat), pre ++ suf = t → i = pre.length → AddAt (knownD t) tl ml s0 s x (pre.map Place.name) t →
  RetT (Q0B (d.cells.map .val) zb x (.val (.mp tl)) (.val (.mp ml)) (.val (.int .i64 (tagOf d pre : Nat))) (.val (.int .i64 d.cons.length)) y (.val (.int .i64 t.length)) (.val (.int .i64 i)) s) s0 (addD t d)
 | [], pre, s, i, h, hi, a => by
   subst hi
   have hpt : pre = t := by simpa using h
   subst hpt
   have hx := Qeo pre
   rw [Q63]
   by_cases h3 : d.kind = 3
   ·have hk4 : d.kind ≠ 4 := by omega
    have gk := a.map.get2 d.name
    cases hg : knownD pre d.name with
    | some v =>
      rw [hg] at gk
      refine ⟨s, .nils, ?_, ?_, a.acc.grew⟩
      ·simp only [go_sem, Int.reduceEq, Nat.reduceAdd, Nat.reduceLeDiff, Q8 rfl, Dec.cells_eq, List.map_cons, List.map_nil, h3, decide_true, gk, Option.getD_some, Option.isSome_some, zb, addD, cond_true, hg, TBad.enc, TBad.cells]
      ·simp only [addD, h3, decide_true, cond_true, hg, Option.isSome_some]; rfl
    | none =>
      rw [hg] at gk
      obtain ⟨s1, e1, h4, m1, t1, l1⟩ := a.map.set d.name d.params
      have a1 : AddAt (upd (knownD pre) d.name d.params) tl ml s0 s1 x (pre.map Place.name) pre := ⟨AccR.kset a.acc m1 t1 h1, h4, a.kn.moves (m1 []) (by simpa using hne)⟩
      have e2 := Q4E d (upd (knownD pre) d.name d.params) d.name d.cons.length hp hne h1 h2 hl hw (pre.map Place.name) 0 pre x s1 a1 (by omega) (by rw [List.length_map]; omega) (by omega) (by omega)
      have : addD pre d = consD d.kind (upd (knownD pre) d.name d.params) (headD d).1 (headD d).2 d.name d.cons.length d.cons (pre.map Place.name) 0 pre := by
       simp only [addD, h3, decide_true, cond_true, hg, Option.isSome_none, cond_false]
      rw [this]
      simp only [Dec.cells_eq, List.map_cons, List.map_nil] at e2
      simp only [go_sem, Int.reduceAdd, Int.reduceEq, Nat.reduceAdd, Nat.reduceLeDiff, Q8 rfl, Dec.cells_eq, List.map_cons, List.map_nil, h3, decide_true, gk, Option.getD_none, Option.isSome_none, e1, tagOf, Int.reduceEq, decide_false, cond_false, Int.natCast_zero]
      simp only [h3] at e2
      exact e2
   ·by_cases h4 : d.kind = 4
    ·have e2 := Q4E d (knownD pre) sExn 0 hp hne h1 h2 hl hw (pre.map Place.name) (exns pre : Nat) pre x s a (by omega) (by rw [List.length_map]; omega) (by omega) (by omega)
     have : addD pre d = consD d.kind (knownD pre) (headD d).1 (headD d).2 sExn 0 d.cons (pre.map Place.name) (exns pre : Nat) pre := by
      simp only [addD, h4, Int.reduceEq, decide_false, decide_true, cond_true, cond_false]
     rw [this]
     simp only [Dec.cells_eq, List.map_cons, List.map_nil] at e2
     simp only [h4, sExn] at e2
     simp only [go_sem, Int.reduceEq, Nat.reduceAdd, Nat.reduceLeDiff, Q8 rfl, Dec.cells_eq, List.map_cons, List.map_nil, h4, Int.reduceEq, decide_false, decide_true, tagOf, cond_true, sExn]
     exact e2
    ·obtain ⟨nl, hav⟩ := a.acc.av
     refine ⟨s, encS nl (pre.map Place.enc), ?_, ?_, a.acc.grew⟩
     rotate_left
     ·simp only [addD, decide_eq_false h3, decide_eq_false h4, cond_false]; exact Qc nl _
     ·simp only [go_sem, Nat.reduceAdd, Nat.reduceLeDiff, Q8 rfl, Dec.cells_eq, List.map_cons, List.map_nil, decide_eq_false h3, decide_eq_false h4, zb, Q7x hav, addD, cond_false, TBad.zero]
      rfl
 | p :: suf, pre, s, i, h, hi, a => by
   subst hi
   obtain ⟨f1, f2, f3⟩ := Q7 hy h (by omega) (Place.cells_len p) (by decide)
   have hlt : pre.length < t.length := by rw [← h]; simp
   have hx := Qeo pre
   obtain ⟨s1, e1, k1, m1, t1, -⟩ := a.kn.inc p.name (by rw [List.length_map]; omega)
   have a1 : AddAt (knownD t) tl ml s0 s1 x ((pre ++ [p]).map Place.name) t := ⟨AccR.kset a.acc m1 t1 h2, a.map.moves (m1 []) (by simpa using Ne.symm hne), by simpa using k1⟩
   have ih := Q4F hp hne h1 h2 hl hw htl y hy x suf (pre ++ [p]) s1 (pre.length + 1) (by simpa using h) (by simp) a1
   have gk := a.kn.get p.name
   have hT : IntKind.i64.wrap ((exns pre : Nat) + 1) = ((exns pre + 1 : Nat) : Int) := Q5e (by omega)
   rw [Q63]
   by_cases h4 : d.kind = 4
   ·by_cases hd : p.data = sExn
    ·have : tagOf d (pre ++ [p]) = exns pre + 1 := by simp [tagOf, h4, QcH, exns, hd]
     rw [this] at ih
     have e0 : tagOf d pre = exns pre := by simp [tagOf, h4]
     rw [e0]
     simp only [Dec.cells_eq, List.map_cons, List.map_nil, h4] at ih
     simp only [sExn] at hd
     simp only [go_sem, Int.reduceEq, Nat.reduceAdd, Nat.reduceLeDiff, f1, f2, f3, Place.cells_eq, Dec.cells_eq, List.map_cons, List.map_nil, gk, e1, h4, decide_true, hd, hT]
     exact ih
    ·have : tagOf d (pre ++ [p]) = exns pre := by simp [tagOf, h4, QcH, exns, hd]
     rw [this] at ih
     have e0 : tagOf d pre = exns pre := by simp [tagOf, h4]
     rw [e0]
     simp only [Dec.cells_eq, List.map_cons, List.map_nil, h4] at ih
     simp only [sExn] at hd
     simp only [go_sem, Int.reduceEq, Nat.reduceAdd, Nat.reduceLeDiff, f1, f2, f3, Place.cells_eq, Dec.cells_eq, List.map_cons, List.map_nil, gk, e1, h4, decide_true, decide_eq_false hd]
     exact ih
   ·have : tagOf d (pre ++ [p]) = tagOf d pre := by simp [tagOf, h4]
    rw [this] at ih
    simp only [Dec.cells_eq, List.map_cons, List.map_nil] at ih
    simp only [go_sem, Nat.reduceAdd, Nat.reduceLeDiff, f1, f2, f3, Place.cells_eq, Dec.cells_eq, List.map_cons, List.map_nil, gk, e1, decide_eq_false h4]
    exact ih
end
theorem Q70 (t : List Place) (d : Dec) (htl : t.length < 2^26) (hwt : ∀ p ∈ t, WideTy p.ty) (hp : d.params < 2^28) (hl : d.cons.length < 2^26) (hw : ∀ c ∈ d.cons, WideTy c.arg) (v : AV) (hv : (Slot.val v).list? = some (t.map Place.enc)) (s : St) : RetT (cw (.f Zn) [v, d.enc] s) s (addD t d) := by
 obtain ⟨x, s1, e1, a1⟩ := Q99 t (by omega) hwt v hv s
 obtain ⟨s2, e2, h2, g2⟩ := Q9L t (by omega) v hv s1
 have g3 : Grew s2 (s2.addLoc (.map [] 0)) := (Grew.refl _).addLoc _
 have e3 := Q4F d t (tl := s1.locs.length) (ml := s2.locs.length) (s0 := s) hp (by have := h2.lt; omega) a1.grew.locsLe (Nat.le_trans a1.grew.locsLe g2.locsLe) hl hw htl (.val v) hv x t [] (s2.addLoc (.map [] 0)) 0 rfl rfl ⟨(a1.move g2).move g3, h2.move g3, KN.new s2⟩
 have ht : tagOf d [] = 0 := by unfold tagOf; cases decide (d.kind = 4) <;> rfl
 rw [ht, show ((0 : Nat) : Int) = 0 from rfl] at e3
 have e4 : cw (.f Zn) [v, d.enc] s = Q0B (d.cells.map .val) zb x (.val (.mp s1.locs.length)) (.val (.mp s2.locs.length)) (.val (.int .i64 0)) (.val (.int .i64 d.cons.length)) (.val v) (.val (.int .i64 t.length)) (.val (.int .i64 0)) (s2.addLoc (.map [] 0)) := by
  rw [QdR]
  simp only [go_sem, Nat.reduceAdd, Dec.enc, Dec.cells_eq, List.map_cons, List.map_nil, e1, e2, hv, List.length_map, zb]
 rw [e4]
 exact e3
theorem Q7E (k : Int) (g : Str → Option Int) (res : Ty) (vars : Int) (data : Str) (of_ : Int) : ∀ (l : List Con) (met : List Str) (tag : Int) (out : List Place), (consD k g res vars data of_ l met tag out).1.length ≤ out.length + l.length
 | [], _, _, _ => Nat.le_refl _
 | c :: l, met, tag, out => by
   simp only [consD]
   split
   ·simp
   ·have := Q7E k g res vars data of_ l (met ++ [c.name]) (tag + 1) (out ++ [conPlace res vars data tag of_ c])
    simp only [List.length_append, List.length_cons, List.length_nil] at this ⊢
    omega
theorem Q6z (k : Int) (g : Str → Option Int) (res : Ty) (hr : WideTy res) (vars : Int) (data : Str) (of_ : Int) : ∀ (l : List Con) (met : List Str) (tag : Int) (out : List Place), (∀ c ∈ l, WideTy c.arg) → (∀ p ∈ out, WideTy p.ty) → ∀ p ∈ (consD k g res vars data of_ l met tag out).1, WideTy p.ty
 | [], _, _, _, _, h => h
 | c :: l, met, tag, out, hl, h => by
   simp only [consD]
   split
   ·simp
   ·refine Q6z k g res hr vars data of_ l _ _ _ (fun c hc => hl c (List.mem_cons_of_mem _ hc)) fun p hp => ?_
    rcases List.mem_append.1 hp with hp | hp
    ·exact h p hp
    ·simp only [List.mem_singleton] at hp
     subst hp
     simp only [conPlace]
     cases c.has with
     | true => exact Qi7 (hl c List.mem_cons_self) hr
     | false => exact Qha res [] hr (by simp)
theorem Qct (t : List Place) (d : Dec) : (addD t d).1.length ≤ t.length + d.cons.length := by
 unfold addD
 cases decide (d.kind = 3) with
 | true =>
   simp only [cond_true]
   cases (knownD t d.name).isSome with
   | true => simp
   | false => exact Q7E _ _ _ _ _ _ _ _ _ _
 | false =>
   simp only [cond_false]
   cases decide (d.kind = 4) with
   | true => exact Q7E _ _ _ _ _ _ _ _ _ _
   | false => simp
theorem Qbk (t : List Place) (d : Dec) (hp : d.params < 2^28) (hl : ∀ c ∈ d.cons, WideTy c.arg) (h : ∀ p ∈ t, WideTy p.ty) : ∀ p ∈ (addD t d).1, WideTy p.ty := by
 unfold addD
 cases decide (d.kind = 3) with
 | true =>
   simp only [cond_true]
   cases (knownD t d.name).isSome with
   | true => simp
   | false => exact Q6z _ _ _ (Q6A d hp) _ _ _ _ _ _ _ hl h
 | false =>
   simp only [cond_false]
   cases decide (d.kind = 4) with
   | true => exact Q6z _ _ _ (Q6A d hp) _ _ _ _ _ _ _ hl h
   | false => exact h
def DecFit (d : Dec) : Prop := d.params < 2^28 ∧ ∀ c ∈ d.cons, WideTy c.arg
theorem Q8T : ∀ p ∈ startD, WideTy p.ty := by
 intro p hp
 simp only [startD, List.mem_cons, List.not_mem_nil, or_false] at hp
 rcases hp with rfl | rfl | rfl | rfl | rfl | rfl <;> exact Q8n (by simp) (by simp)
def consOf : List Dec → Nat
 | [] => 0
 | d :: l => d.cons.length + consOf l
theorem Q7F : ∀ l : List Dec, consOf l ≤ Dec.sizes l
 | [] => Nat.zero_le _
 | .mk k a nm p l lb c cb f fb :: r => by
   have h1 := Q7F r
   have h2 := Con.len_sizes l
   simp only [consOf, Dec.sizes, Dec.size, Dec.cons]; omega
theorem Q7G (P : List Dec) (hP : P.length < 2^40) (y : Slot) (hy : y.list? = some (P.map Dec.enc)) (s0 : St) : ∀ (suf pre : List Dec) (t : List Place) (x : Slot) (v : AV) (s : St) (i : Nat), pre ++ suf = P → i = pre.length → (∀ d ∈ suf, DecFit d) → t.length + consOf suf < 2^26 → (∀ p ∈ t, WideTy p.ty) → x.av = some v → (Slot.val v).list? = some (t.map Place.enc) → Grew s0 s →
  RetT (Q2Q zb x y (.val (.int .i64 P.length)) (.val (.int .i64 i)) s) s0 (ofD suf t)
 | [], pre, t, x, v, s, i, hp, hi, hF, hl, hw, hx, hv, g => by
   subst hi
   refine ⟨s, v, ?_, hv, g⟩
   rw [Q71]; simp only [go_sem, Nat.reduceAdd, Nat.reduceLeDiff, Q8 (by simpa using hp), zb, Q7x hx]
   rfl
 | d :: suf, pre, t, x, v, s, i, hp, hi, hF, hl, hw, hx, hv, g => by
   subst hi
   obtain ⟨f1, f2, f3⟩ := Q7 hy hp (by omega) (Dec.cells_len d) (by decide)
   obtain ⟨hf1, hf2⟩ := hF d List.mem_cons_self
   simp only [consOf] at hl
   obtain ⟨s1, w, e1, hw1, g1⟩ := Q70 t d (by omega) hw hf1 (by omega) hf2 v hv s
   have hlen := Qct t d
   have ih := Q7G P hP y hy s0 suf (pre ++ [d]) (addD t d).1 (.val w) w s1 (pre.length + 1) (by simpa using hp) (by simp) (fun q hq => hF q (List.mem_cons_of_mem _ hq)) (by omega) (Qbk t d hf1 hf2 hw) rfl hw1 (g.trans g1)
   rw [Q71]
   simp only [Dec.enc, Dec.cells_eq] at e1
   simp only [ofD]
   by_cases hz : (addD t d).2.kind = 0
   ·rw [if_neg (by simpa using hz)]
    simp only [go_sem, Nat.reduceAdd, Nat.reduceLeDiff, f1, f2, f3, Dec.cells_eq, Qu hx, e1, TBad.enc, TBad.cells, List.map_cons, List.map_nil, hz, decide_true, Bool.not_true]
    exact ih
   ·rw [if_pos (by simpa using hz)]
    refine ⟨s1, .nils, ?_, rfl, g.trans g1⟩
    simp only [go_sem, Nat.reduceAdd, Nat.reduceLeDiff, f1, f2, f3, Dec.cells_eq, Qu hx, e1, TBad.enc, TBad.cells, List.map_cons, List.map_nil, decide_eq_false hz, Bool.not_false, zb]
theorem QcF (P : List Dec) (nl : Bool) (hF : ∀ d ∈ P, DecFit d) (hs : Dec.sizes P < 2^25) (s : St) : RetT (cw (.f Q5g) [encS nl (P.map Dec.enc)] s) s (ofD P startD) := by
 obtain ⟨s1, e1, g1⟩ := Q5m s
 have hl := Dec.len_sizes P
 have hc := Q7F P
 have e2 := Q7G P (by omega) (.val (encS nl (P.map Dec.enc))) (Qc _ _) s P [] startD (.full (startD.map Place.enc)) (.sl (startD.map Place.enc)) s1 0 rfl rfl hF (by simp only [startD, List.length_cons, List.length_nil]; omega) Q8T rfl rfl g1
 rw [show ((0 : Nat) : Int) = 0 from rfl] at e2
 rw [QeT]
 simp only [go_sem, e1, List.length_map, zb] at e2 ⊢
 exact e2
end Go.Proofs.Ytinphnakebeloaa
namespace Go.Proofs.Ytinphnakebeloaa
open Go Go.Am
set_option linter.unusedVariables false
def failO (e a : Int) (nm : Str) (b : Option TBad) : Option TBad := match b with | some b => some b | none => some ⟨e, a, nm⟩
def conO (t : List Place) (nm : Str) (a k : Int) (b : Option TBad) : Option TBad := match findD nm t with
 | none => failO 17 a nm b
 | some p => if p.has ≠ decide (k > 0) then failO 19 a nm b else b
def chkI (t : List Place) : ScI (Option TBad) := ⟨conO t, fun nm a => failO 16 a nm, failO, Option.isSome⟩
def freeI : ScI (List Str) := ⟨fun _ _ _ st => st, fun nm _ st => addS st nm, fun _ _ _ st => st, fun _ => false⟩
def chkDecs : List Dec → List Place → List Str → Option TBad → List Str × Option TBad
 | [], _, bd, st => (bd, st)
 | d :: r, t, bd, st => chkDecs r (addD t d).1 (scDec (chkI t) d bd st).1 (scDec (chkI t) d bd st).2
def checkD (P : List Dec) : TBad :=
 if rightN (nodesDecs false P) (deepDecs P 0) ≠ .zero then rightN (nodesDecs false P) (deepDecs P 0)
 else if (ofD P startD).2 ≠ .zero then (ofD P startD).2
 else (chkDecs P startD [] none).2.getD .zero
def freeD (e : Exp) : List Str := if rightN (nodesExp e) (deepExp e) ≠ .zero then [] else scExp freeI e [] []
def bindsD (d : Dec) : List Str := if rightN (nodesDecs false [d]) (deepDecs [d] 0) ≠ .zero then [] else namesD d
end Go.Proofs.Ytinphnakebeloaa
namespace Go.Am
open Go
@[go_sem] theorem Qlg {l : List AV} {off sz : Nat} {m : List AV} (h : sz = 1) (k : off + 1 ≤ l.length) (r : List (Nat × Nat × Slot)) : fillS l ((off, sz, .full m) :: r) = fillS (l.take off ++ ([.sl m] ++ l.drop (off + 1))) r := by
  subst h
  exact QeV (x := .full m) (v := .sl m) rfl rfl rfl k r
end Go.Am
namespace Go.Proofs.Ytinphnakebeloaa
open Go Go.Am
set_option linter.unusedVariables false
set_option maxRecDepth 4000
theorem eqBad (a b a' b' : Int) (c c' : Str) : eqS (C.ti Q6) (.agg [.int .i64 a, .int .i64 b, .str c]) (.agg [.int .i64 a', .int .i64 b', .str c']) = some (decide (TBad.mk a b c = TBad.mk a' b' c')) := by
 unfold eqS
 simp only [Qhk, QeE]
 have e1 : (a == a') = decide (a = a') := by rw [Bool.eq_iff_iff]; simp
 have e2 : (b == b') = decide (b = b') := by rw [Bool.eq_iff_iff]; simp
 have e3 : (c == c') = decide (c = c') := by rw [Bool.eq_iff_iff]; simp
 by_cases h1 : a = a' <;> by_cases h2 : b = b' <;> by_cases h3 : c = c' <;> simp [eqAll, TK.has, AV.eqb, e1, e2, e3, h1, h2, h3]
theorem QeL (a b a' b' : Int) (c c' : Str) : binS (C.ti Q6) .eql (.val (.agg [.int .i64 a, .int .i64 b, .str c])) (.val (.agg [.int .i64 a', .int .i64 b', .str c'])) = some (.val (.bool (decide (TBad.mk a b c = TBad.mk a' b' c')))) := by
 unfold binS
 simp only [Q0u, eqBad]
 rfl
theorem Q1b (a b a' b' : Int) (c c' : Str) : binS (C.ti Q6) .neq (.val (.agg [.int .i64 a, .int .i64 b, .str c])) (.val (.agg [.int .i64 a', .int .i64 b', .str c'])) = some (.val (.bool (!decide (TBad.mk a b c = TBad.mk a' b' c')))) := by
 unfold binS
 simp only [Q0u, eqBad]
 rfl
@[go_sem] theorem Qk7 (a b : Int) (c : Str) : binS (C.ti Q6) .eql (.val (.agg [.int .i64 a, .int .i64 b, .str c])) (.val (.agg [.int .i64 a, .int .i64 b, .str c])) = some (.val (.bool true)) := by
  rw [QeL, decide_eq_true rfl]
def kE1 : Exp := .mk 4 0 [] 0 [.mk 1 0 [] 1 [] true [] true [] true] false [] true [] true
def kP : Pat := .mk 6 0 [120] 0 [.mk 2 0 [121] 0 [] true] false
def kE2 : Exp := .mk 2 4 [78, 105, 108] 0 [] true [] true [] true
def kD : List Dec := [.mk 1 0 [] 0 [] true [.mk kP kE1] false [] true]
theorem k1 : rightN (nodesExp kE1) (deepExp kE1) = ⟨19, 0, []⟩ := by decide +kernel
theorem k2 : rightN (nodesExp kE2) (deepExp kE2) = ⟨8, 4, [78, 105, 108]⟩ := by decide +kernel
theorem k3 : countN (nodesDecs false kD) = 5 := by decide +kernel
theorem k4 : varsPat kP = [[120], [121]] := by decide +kernel
end Go.Proofs.Ytinphnakebeloaa
namespace Go.Proofs.Ytinphnakebeloaa
open Go Go.Am
set_option linter.unusedVariables false
set_option maxRecDepth 4000
def wcells (kl : Nat) (b : TBad) (con free : AV) (stop quiet : Bool) : List Slot := [.val (.mp kl), .val (.int .i64 b.kind), .val (.int .i64 b.at_), .val (.str b.name), .val con, .val free, .val (.bool stop), .val (.bool quiet)]
theorem Q5E {wl kl : Nat} {b : TBad} {con free : AV} {stop quiet : Bool} {s : St} (hc : s.locs[wl]? = some (.var (wcells kl b con free stop quiet))) (hq : (stop || quiet) = true) (e a : Int) (nm : Str) : cw (.f QF) [.vp wl 0, .int .i64 e, .int .i64 a, .str nm] s = some (.ret (.val (.tup [])), s) := by
 rw [Q3V]
 have f : ∀ (t : TI) (off : Nat), ldV t false s (.val (.vp wl off)) = ofSlots t (((wcells kl b con free stop quiet).drop off).take t.size) := fun t off => Zf hc
 cases stop with
 | true => simp only [go_sem, Nat.reduceAdd, Nat.reduceLeDiff, f, wcells, Bool.not_true]
 | false =>
   cases quiet with
   | true => simp only [go_sem, Nat.reduceAdd, Nat.reduceLeDiff, f, wcells, Bool.not_true, Bool.not_false]
   | false => cases hq
theorem Qca {wl kl : Nat} {b : TBad} {con free : AV} {s : St} (hc : s.locs[wl]? = some (.var (wcells kl b con free false false))) (e a : Int) (nm : Str) : cw (.f QF) [.vp wl 0, .int .i64 e, .int .i64 a, .str nm] s = some (.ret (.val (.tup [])), { s with locs := s.locs.set wl (.var (wcells kl ⟨e, a, nm⟩ con free true false)) }) := by
 rw [Q3V]
 have f : ∀ (t : TI) (off : Nat), ldV t false s (.val (.vp wl off)) = ofSlots t (((wcells kl b con free false false).drop off).take t.size) := fun t off => Zf hc
 have g1 : stV s (.val (.vp wl 1)) [.val (.int .i64 e), .val (.int .i64 a), .val (.str nm)] = some { s with locs := s.locs.set wl (.var (wcells kl ⟨e, a, nm⟩ con free false false)) } := Q1J hc (by simp [wcells])
 have g2 : stV { s with locs := s.locs.set wl (.var (wcells kl ⟨e, a, nm⟩ con free false false)) } (.val (.vp wl 6)) [.val (.bool true)] = some { s with locs := s.locs.set wl (.var (wcells kl ⟨e, a, nm⟩ con free true false)) } := by
  rw [Q1J (cs := wcells kl ⟨e, a, nm⟩ con free false false) (Q81 hc) (by simp [wcells])]
  simp only [List.set_set]
  rfl
 simp only [go_sem, Nat.reduceAdd, Nat.reduceLeDiff, f, wcells, Bool.not_false]
 simp only [wcells] at g1 g2
 simp only [go_sem, g1, g2]
section
variable (t : List Place) (wl kl vl tl : Nat)
def ChkR (n : Nat) (st : Option TBad) (h : List Nat) (s : St) : Prop := h = [] ∧ s.locs[wl]? = some (.var (wcells kl (st.getD .zero) (.fn Q0q [.vp tl 0, .vp vl 0]) (.fn Q0p [.vp vl 0]) st.isSome false)) ∧ s.locs[vl]? = some (.var [.val (.vp wl 0)]) ∧ ∃ x v, s.locs[tl]? = some (.var [x]) ∧ x.av = some v ∧ (Slot.val v).list? = some (t.map Place.enc)
variable {t wl kl vl tl}
theorem ChkR.fail (h1 : wl ≠ vl) (h2 : wl ≠ tl) {n : Nat} {st : Option TBad} {h : List Nat} {s : St} (w : ChkR t wl kl vl tl n st h s) (e a : Int) (nm : Str) :
  ∃ s' h', cw (.f QF) [.vp wl 0, .int .i64 e, .int .i64 a, .str nm] s = some (.ret (.val (.tup [])), s') ∧ ChkR t wl kl vl tl n (failO e a nm st) h' s' ∧ Moves [wl, vl, tl] h h' s s' := by
 obtain ⟨rfl, c1, c2, x, v, c3, c4, c5⟩ := w
 cases st with
 | some b => exact ⟨s, [], Q5E c1 rfl e a nm, ⟨rfl, c1, c2, x, v, c3, c4, c5⟩, .refl _ _ _⟩
 | none =>
   refine ⟨_, [], Qca c1 e a nm, ⟨rfl, Q81 c1, ?_, x, v, ?_, c4, c5⟩, (Moves.refl _ _ _).setLoc (.inl (by simp)) _⟩
   ·simp only; rw [List.getElem?_set_ne h1]; exact c2
   ·simp only; rw [List.getElem?_set_ne h2]; exact c3
theorem ChkR.grew {n : Nat} {st : Option TBad} {h : List Nat} {s s' : St} (w : ChkR t wl kl vl tl n st h s) (g : Grew s s') : ChkR t wl kl vl tl n st h s' := by
 obtain ⟨rfl, c1, c2, x, v, c3, c4, c5⟩ := w
 exact ⟨rfl, g.loc c1, g.loc c2, x, v, g.loc c3, c4, c5⟩
theorem Qjq (h1 : wl ≠ vl) (h2 : wl ≠ tl) (hk : kl ≠ wl ∧ kl ≠ vl ∧ kl ≠ tl) (hl : t.length < 2^40) (hw : ∀ p ∈ t, WideTy p.ty) : ScOK (chkI t) wl kl [wl, vl, tl] Q0q [.vp tl 0, .vp vl 0] Q0p [.vp vl 0] (ChkR t wl kl vl tl) where
 cell := fun {n st h s} w => ⟨_, _, w.2.1⟩
 con := fun {n st h s} nm a k w => by
  obtain ⟨rfl, c1, c2, x, v, c3, c4, c5⟩ := w
  obtain ⟨s1, e1, g1⟩ := QaX nm t hl hw v c5 s
  have w1 : ChkR t wl kl vl tl n st [] s1 := ChkR.grew (n := n) ⟨rfl, c1, c2, x, v, c3, c4, c5⟩ g1
  have f1 : ldV (C.ti Zl) false s (.val (.vp tl 0)) = some x := by rw [Zf c3]; simp only [go_sem, Nat.reduceAdd, Nat.reduceLeDiff]
  have f2 : ldV (C.ti QH) false s1 (.val (.vp vl 0)) = some (.val (.vp wl 0)) := by rw [Zf (g1.loc c2)]; simp only [go_sem, Nat.reduceAdd, Nat.reduceLeDiff]
  have m1 : Moves [wl, vl, tl] [] [] s s1 := .grew _ _ g1
  cases hf : findD nm t with
  | none =>
    obtain ⟨s2, h2', e2, w2, m2⟩ := w1.fail h1 h2 17 a nm
    refine ⟨s2, h2', ?_, by simpa only [chkI, conO, hf] using w2, m1.trans m2⟩
    rw [hf] at e1
    simp only [foundD, Place.enc, Place.cells_eq, Place.zero] at e1
    rw [Q2x]
    simp only [go_sem, Nat.reduceAdd, Nat.reduceLeDiff, f1, Qu c4, e1, f2, e2, Bool.not_false]
  | some p =>
    rw [hf] at e1
    simp only [foundD, Place.enc, Place.cells_eq] at e1
    by_cases hh : p.has = decide (k > 0)
    ·refine ⟨s1, [], ?_, by simpa only [chkI, conO, hf, hh, ne_eq, not_true_eq_false, if_false] using w1, m1⟩
     rw [Q2x]
     have hn : ∀ b : Bool, binS (C.ti Qg) .neq (.val (.bool b)) (.val (.bool b)) = some (.val (.bool false)) := fun b => by cases b <;> rfl
     simp only [go_sem, Nat.reduceAdd, Nat.reduceLeDiff, f1, Qu c4, e1, f2, Bool.not_true, hh, hn]
    ·obtain ⟨s2, h2', e2, w2, m2⟩ := w1.fail h1 h2 19 a nm
     refine ⟨s2, h2', ?_, by simpa only [chkI, conO, hf, hh, ne_eq, not_false_eq_true, if_true] using w2, m1.trans m2⟩
     rw [Q2x]
     have hn : binS (C.ti Qg) .neq (.val (.bool p.has)) (.val (.bool (decide (k > 0)))) = some (.val (.bool true)) := by
      revert hh; cases p.has <;> cases decide (k > 0) <;> intro hh <;> first | rfl | exact absurd rfl hh
     simp only [go_sem, Nat.reduceAdd, Nat.reduceLeDiff, f1, Qu c4, e1, f2, Bool.not_true, hn, e2]
 free := fun {n st h s} nm a w => by
  have c2 := w.2.2.1
  obtain ⟨s2, h2', e2, w2, m2⟩ := ChkR.fail (n := n) h1 h2 (st := st) ⟨w.1, w.2⟩ 16 a nm
  refine ⟨s2, h2', ?_, w2, m2⟩
  have f2 : ldV (C.ti QH) false s (.val (.vp vl 0)) = some (.val (.vp wl 0)) := by rw [Zf c2]; simp only [go_sem, Nat.reduceAdd, Nat.reduceLeDiff]
  rw [Q9i]
  simp only [go_sem, f2, e2]
 fail := fun {n st h s} e nm a w => ChkR.fail (n := n) h1 h2 ⟨w.1, w.2⟩ e a nm
 stab := fun {n st h s s'} w hl ht => by
  obtain ⟨rfl, c1, c2, x, v, c3, c4, c5⟩ := w
  exact ⟨rfl, by rw [hl wl (by simp)]; exact c1, by rw [hl vl (by simp)]; exact c2, x, v, by rw [hl tl (by simp)]; exact c3, c4, c5⟩
 held := fun {n st h s} w => by rw [w.1]; simp
 low := fun {n st h s} w i hi => by
  obtain ⟨rfl, c1, c2, x, v, c3, c4, c5⟩ := w
  simp only [List.mem_cons, List.not_mem_nil, or_false] at hi
  rcases hi with rfl | rfl | rfl
  ·exact (List.getElem?_eq_some_iff.1 c1).1
  ·exact (List.getElem?_eq_some_iff.1 c2).1
  ·exact (List.getElem?_eq_some_iff.1 c3).1
 le := fun {n m st h s} w _ => ⟨w.1, w.2⟩
 wA := by simp
 kA := by simp [hk]
end
end Go.Proofs.Ytinphnakebeloaa