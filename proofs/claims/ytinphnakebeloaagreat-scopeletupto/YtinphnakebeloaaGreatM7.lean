/- A part of the proof: SScope5, SDecl4, SDecl5, PScope2, SKnows, SScope6, SScope7, PWithin, PRight, PTree2, SRef2, SRef3, SRef4, SRef5, SRef6, SLaw12, PScope3, LScopeLet. -/
import Derived.Test.YtinphnakebeloaaGreatM6
import Derived.Lib.IndexMore
set_option linter.unusedVariables false
set_option linter.unusedSimpArgs false
namespace Go.Proofs.YtinphnakebeloaaGreat
open Go Go.Am
set_option linter.unusedVariables false
set_option maxRecDepth 4000
section
variable {σ : Type} {I : ScI σ} {wl kl : Nat} {A : List Nat} {cf : FuncId} {cc : List AV} {ff : FuncId} {fc : List AV} {R : Nat → σ → List Nat → St → Prop}
/-- names bound: what lets them go -/
theorem scope_names_bind (H : ScOK I wl kl A cf cc ff fc R) (d : Dec) (hd : d.size < 2^26) {n : Nat} {st : σ} {bd : List Str} {h : List Nat} {s : St} (w : RW R kl (n + (namesD d).length) st bd h s) :
    ∃ x s1 s2 v, cw (.f F_scope_names) [d.enc] s = some (.ret x, s1) ∧ x.av = some v ∧ cw (.f F_scope_walk_bind) [.vp wl 0, v] s1 = some (.ret (.val (.fn F_scope_walk_bind_1 [.cp [v], .cp [.vp wl 0]])), s2) ∧ RW R kl n st (namesD d ++ bd) h s2 ∧ Moves (kl :: A) h h s s2 ∧ BackOK R kl F_scope_walk_bind_1 [.cp [v], .cp [.vp wl 0]] (namesD d) := by
  have hf := w.few
  obtain ⟨x, s1, h1, e1, a1, g1⟩ := scope_names_spec d hd s
  have hl2 : (Slot.val (encS true ((namesD d).map .str))).list? = some ((namesD d).map .str) := list?_encS _ _
  obtain ⟨s2, e2, w2, m2⟩ := scope_bind_spec H (namesD d) _ hl2 (w.grew H g1)
  exact ⟨x, s1, s2, _, e1, a1.av, e2, w2, (Moves.grew _ _ g1).trans ((m2 _).wider (by simp)), scope_back_spec H (namesD d) _ hl2 (by omega)⟩
def valsCost : List Case → Nat
  | [] => 0
  | .mk p e :: l => p.size + 2 * e.size + valsCost l
theorem valsCost_le : ∀ l : List Case, valsCost l + (varsCases l).length ≤ 2 * Case.sizes l
  | [] => by simp [valsCost, varsCases]
  | .mk p e :: l => by
    have h1 := varsPat_len p
    have h2 := valsCost_le l
    simp only [valsCost, varsCases, List.length_append, Case.sizes, Case.size]; omega
theorem scope_vals_loop (H : ScOK I wl kl A cf cc ff fc R) (x3 : List Slot) (l : List Case) (y : Slot) (hy : y.list? = some (l.map Case.enc)) (hlen : l.length < 2^40) : ∀ (suf pre : List Case) (n : Nat) (st : σ) (bd : List Str) (h : List Nat) (s : St) (i : Nat), pre ++ suf = l → i = pre.length → (∀ c ∈ suf, ExpWOK I R wl kl A c.exp) → RW R kl (n + valsCost suf) st bd h s →
    ∃ s' h', scope_walk_dec_l0 (.val (.vp wl 0)) x3 y (.val (.int .i64 l.length)) (.val (.int .i64 i)) s = scope_walk_dec_l0 (.val (.vp wl 0)) x3 y (.val (.int .i64 l.length)) (.val (.int .i64 l.length)) s' ∧ RW R kl n (scVals I suf bd st) bd h' s' ∧ Moves (kl :: A) h h' s s'
  | [], pre, n, st, bd, h, s, i, hp, hi, hP, w => by
    subst hi
    have hpl : pre.length = l.length := by rw [← hp]; simp
    exact ⟨s, h, by rw [hpl], by simpa [valsCost, scVals] using w, .refl _ _ _⟩
  | .mk p e :: suf, pre, n, st, bd, h, s, i, hp, hi, hP, w => by
    subst hi
    obtain ⟨f1, f2, f3⟩ := step_facts hy hp (by omega) (Case.cells_len (.mk p e)) (by decide)
    simp only [valsCost] at w
    obtain ⟨s0, h0, e0, w0, m0⟩ := scope_pat_new (n := n + valsCost suf + 2 * e.size) H p (w.le H (by omega)) (st := st)
    obtain ⟨s1, h1, e1, w1, m1⟩ := hP (.mk p e) List.mem_cons_self (n + valsCost suf) _ bd h0 s0 w0
    simp only [Case.exp] at e1 w1 m1
    obtain ⟨s2, h2, e2, w2, m2⟩ := scope_vals_loop H x3 l y hy hlen suf (pre ++ [.mk p e]) n _ bd h1 s1 (pre.length + 1) (by simpa using hp) (by simp) (fun q hq => hP q (List.mem_cons_of_mem _ hq)) w1
    refine ⟨s2, h2, ?_, by simpa only [scVals] using w2, (m0.trans m1).trans m2⟩
    rw [← e2, scope_walk_dec_l0_eq]
    simp only [Pat.enc, Pat.cells_eq] at e0
    simp only [Exp.enc, Exp.cells_eq] at e1
    simp only [go_sem, Nat.reduceAdd, Nat.reduceLeDiff, f1, f2, f3, Case.cells_mk, Pat.cells_eq, Exp.cells_eq, e0, e1]
theorem scope_funs_loop (H : ScOK I wl kl A cf cc ff fc R) (x7 : Slot) {hl : Nat} (hA : hl ∉ A) (hk : hl ≠ kl) (l : List Fun) (y : Slot) (hy : y.list? = some (l.map Fun.enc)) (hlen : l.length < 2^40) : ∀ (suf pre : List Fun) (n : Nat) (had : List Str) (st : σ) (bd : List Str) (h : List Nat) (s : St) (i : Nat), pre ++ suf = l → i = pre.length → (∀ f ∈ suf, CaseWOK I R wl kl A f.case) → PW R kl hl (n + 2 * Fun.sizes suf - suf.length) (had, st) bd h s →
    ∃ s' h', scope_walk_dec_l1 (.val (.vp wl 0)) x7 (.val (.mp hl)) y (.val (.int .i64 l.length)) (.val (.int .i64 i)) s = some (.ret x7, s') ∧ RW R kl n (scFuns I suf bd had st) bd h' s' ∧ Moves (hl :: kl :: A) h h' s s'
  | [], pre, n, had, st, bd, h, s, i, hp, hi, hP, w => by
    subst hi
    rw [scope_walk_dec_l1_eq]; simp only [go_sem, end_facts (by simpa using hp)]
    exact ⟨s, h, rfl, by simpa [Fun.sizes, scFuns] using w.w, .refl _ _ _⟩
  | .mk nm a c :: suf, pre, n, had, st, bd, h, s, i, hp, hi, hP, w => by
    subst hi
    obtain ⟨f1, f2, f3⟩ := step_facts hy hp (by omega) (Fun.cells_len (.mk nm a c)) (by decide)
    have hsz := Fun.len_sizes suf
    simp only [Fun.sizes, Fun.size, List.length_cons] at w
    have hf : had.length + (n + 2 * (c.size + 1 + Fun.sizes suf) - (suf.length + 1)) < 2^40 := w.few
    obtain ⟨s1, e1, e2, w1, k1, m1⟩ := PW.had (n := n + 2 * Fun.sizes suf - suf.length + 2 * c.size) H hA hk ⟨w.w.le H (by omega), w.kn, by simp only; omega⟩ nm
    have g2 := w.kn.get nm
    have hlow : hl ∉ kl :: A := by simp only [List.mem_cons, not_or]; exact ⟨hk, hA⟩
    by_cases hm : nm ∈ had
    · obtain ⟨s2, h2, e3, r3, m3⟩ := H.fail 9 nm a w1.r
      have w3 := w1.of H r3 (by omega) m3
      obtain ⟨s4, h4, e4, w4, m4⟩ := hP (.mk nm a c) List.mem_cons_self (n + 2 * Fun.sizes suf - suf.length) _ bd h2 s2 w3
      simp only [Fun.case] at e4 w4 m4
      obtain ⟨s5, h5, e5, w5, m5⟩ := scope_funs_loop H x7 hA hk l y hy hlen suf (pre ++ [.mk nm a c]) n (had ++ [nm]) _ bd h4 s4 (pre.length + 1) (by simpa using hp) (by simp) (fun q hq => hP q (List.mem_cons_of_mem _ hq)) ⟨w4, (k1.moves m3 hA).moves m4 hlow, by simp only [List.length_append, List.length_cons, List.length_nil]; omega⟩
      refine ⟨s5, h5, ?_, by simpa only [scFuns, hm, if_true] using w5, (((m1.wider (by simp +contextual)).trans (m3.wider (by simp +contextual))).trans (m4.wider (by simp +contextual))).trans m5⟩
      rw [← e5, scope_walk_dec_l1_eq]
      cases c with
      | mk p e =>
      simp only [Case.enc, Case.cells_mk, Pat.cells_eq, Exp.cells_eq, List.cons_append, List.nil_append] at e4
      simp only [go_sem, Nat.reduceAdd, Nat.reduceLeDiff, f1, f2, f3, Fun.cells_mk, Case.cells_mk, Pat.cells_eq, Exp.cells_eq, g2, e1, e2, count_pos, hm, decide_true, e3, e4]
    · obtain ⟨s4, h4, e4, w4, m4⟩ := hP (.mk nm a c) List.mem_cons_self (n + 2 * Fun.sizes suf - suf.length) _ bd h s1 (w1.le H (by simp only [Fun.case]; omega))
      simp only [Fun.case] at e4 w4 m4
      obtain ⟨s5, h5, e5, w5, m5⟩ := scope_funs_loop H x7 hA hk l y hy hlen suf (pre ++ [.mk nm a c]) n (had ++ [nm]) _ bd h4 s4 (pre.length + 1) (by simpa using hp) (by simp) (fun q hq => hP q (List.mem_cons_of_mem _ hq)) ⟨w4, k1.moves m4 hlow, by simp only [List.length_append, List.length_cons, List.length_nil]; omega⟩
      refine ⟨s5, h5, ?_, by simpa only [scFuns, hm, if_false] using w5, ((m1.wider (by simp +contextual)).trans (m4.wider (by simp +contextual))).trans m5⟩
      rw [← e5, scope_walk_dec_l1_eq]
      cases c with
      | mk p e =>
      simp only [Case.enc, Case.cells_mk, Pat.cells_eq, Exp.cells_eq, List.cons_append, List.nil_append] at e4
      simp only [go_sem, Nat.reduceAdd, Nat.reduceLeDiff, f1, f2, f3, Fun.cells_mk, Case.cells_mk, Pat.cells_eq, Exp.cells_eq, g2, e1, e2, count_pos, hm, decide_false, e4]
theorem namesD_len (d : Dec) : (namesD d).length ≤ (bif decide (d.kind = 1) then varsCases d.case else bif decide (d.kind = 2) then d.funs.map Fun.name else []).length := by
  have := (foldl_addS_len (bif decide (d.kind = 1) then varsCases d.case else bif decide (d.kind = 2) then d.funs.map Fun.name else []) []).2
  rw [List.length_nil, Nat.zero_add] at this
  exact this
theorem scope_dec_of (H : ScOK I wl kl A cf cc ff fc R) (d : Dec) (hsz : d.size < 2^26) (hE : ∀ c ∈ d.case, ExpWOK I R wl kl A c.exp) (hC : ∀ f ∈ d.funs, CaseWOK I R wl kl A f.case) : DecWOK I R wl kl A d := by
  intro n st bd h s w
  cases d with
  | mk k a nm pr l lb c cb f fb =>
  have hn := namesD_len (.mk k a nm pr l lb c cb f fb)
  have hlc := Case.len_sizes c
  have hlf := Fun.len_sizes f
  simp only [Dec.size] at w hsz
  simp only [Dec.kind, Dec.case, Dec.funs] at hn hE hC
  rw [scope_walk_dec_eq]
  simp only [scDec]
  by_cases h1 : k = 1
  · subst h1
    have hc := valsCost_le c
    simp only [decide_true, cond_true] at hn
    obtain ⟨s1, h1', e1, w1, m1⟩ := scope_vals_loop H ((Dec.mk 1 a nm pr l lb c cb f fb).cells.map .val) c (.val (encS cb (c.map Case.enc))) (list?_encS _ _) (by omega) c [] (n + (namesD (.mk 1 a nm pr l lb c cb f fb)).length) st bd h s 0 rfl rfl hE (w.le H (by omega))
    obtain ⟨x, s2, s3, v, e2, av, e3, w3, m3, B⟩ := scope_names_bind H (.mk 1 a nm pr l lb c cb f fb) (by simp only [Dec.size]; omega) w1
    refine ⟨s3, h1', _, _, _, ?_, w3, m1.trans m3, rfl, B⟩
    rw [show ((0 : Nat) : Int) = 0 from rfl] at e1
    rw [scope_walk_dec_l0_eq (s_1 := s1)] at e1
    have d1 : decide ((c.length : Int) < (c.length : Int)) = false := by simp
    simp only [Dec.enc, Dec.cells_mk, List.map_cons, List.map_nil] at e1 e2
    simp only [go_sem, Nat.reduceAdd, Nat.reduceLeDiff, d1, e2, avs_cons av, e3] at e1
    simp only [go_sem, Int.reduceEq, Nat.reduceAdd, Nat.reduceLeDiff, Dec.enc, Dec.cells_mk, List.map_cons, List.map_nil, decide_true, List.length_map]
    exact e1
  · by_cases h2 : k = 2
    · subst h2
      simp only [decide_true, cond_true, cond_false, List.length_map, Int.reduceEq, decide_false] at hn
      obtain ⟨x, s2, s3, v, e2, av, e3, w3, m3, B⟩ := scope_names_bind (n := n + 2 * Fun.sizes f - f.length) H (.mk 2 a nm pr l lb c cb f fb) (by simp only [Dec.size]; omega) (w.le H (by omega))
      have g : Grew s3 (s3.addLoc (.map [] 0)) := (Grew.refl _).addLoc _
      obtain ⟨s4, h4, e4, w4, m4⟩ := scope_funs_loop H (.val (.fn F_scope_walk_bind_1 [.cp [v], .cp [.vp wl 0]])) (hl := s3.locs.length) (fun hm => by have := H.low w3.r _ hm; omega) (fun e => by have := w3.kn.lt; omega) f (.val (encS fb (f.map Fun.enc))) (list?_encS _ _) (by omega) f [] n [] st _ h (s3.addLoc (.map [] 0)) 0 rfl rfl hC ⟨w3.grew H g, KN.new s3, by have := w3.few; simp only [List.length_nil]; omega⟩
      refine ⟨s4, h4, _, _, _, ?_, w4, (m3.trans (Moves.grew _ _ g)).next m4 fun i hi => ?_, rfl, B⟩
      · rw [show ((0 : Nat) : Int) = 0 from rfl] at e4
        rw [← e4]
        simp only [Dec.enc, Dec.cells_mk, List.map_cons, List.map_nil] at e2
        simp only [go_sem, Int.reduceEq, Nat.reduceAdd, Nat.reduceLeDiff, Dec.enc, Dec.cells_mk, List.map_cons, List.map_nil, Int.reduceEq, decide_false, decide_true, e2, avs_cons av, e3, List.length_map]
      · rcases List.mem_cons.1 hi with rfl | hi
        · exact .inr (by have := m3.ll; omega)
        · exact .inl hi
    · refine ⟨s, h, F_scope_walk_dec_1, [], [], ?_, by simpa [h1, h2] using w.le H (by omega), .refl _ _ _, by simp [h1, h2], scope_none_spec⟩
      simp only [go_sem, Nat.reduceAdd, Nat.reduceLeDiff, Dec.enc, Dec.cells_mk, List.map_cons, List.map_nil, decide_eq_false h1, decide_eq_false h2]
/-- the walk, of all -/
theorem scope_walk_all (H : ScOK I wl kl A cf cc ff fc R) : ∀ (m : Nat), (∀ e : Exp, e.size ≤ m → e.size < 2^26 → ExpWOK I R wl kl A e) ∧ (∀ c : Case, c.size ≤ m → c.size < 2^26 → CaseWOK I R wl kl A c) ∧ ∀ d : Dec, d.size ≤ m → d.size < 2^26 → DecWOK I R wl kl A d
  | 0 => ⟨fun e h => by cases e; simp only [Exp.size] at h; omega, fun c h => by cases c with | mk p e => cases e; simp only [Case.size, Exp.size] at h; omega, fun d h => by cases d; simp only [Dec.size] at h; omega⟩
  | m + 1 => by
    obtain ⟨iE, iC, iD⟩ := scope_walk_all H m
    have hE : ∀ e : Exp, e.size ≤ m + 1 → e.size < 2^26 → ExpWOK I R wl kl A e := fun e h h' => by
      cases e with
      | mk k a nm n l lb c cb d db =>
      simp only [Exp.size] at h h'
      exact scope_exp_of H _ (by simp only [Exp.size]; omega) (fun q hq => by
          have := Dec.mem_sizes hq
          simp only [Exp.decs] at this
          exact iD q (by omega) (by omega)) (fun q hq => by
          have := Exp.mem_sizes hq
          simp only [Exp.kids] at this
          exact iE q (by omega) (by omega)) (fun q hq => by
          have := Case.mem_sizes hq
          simp only [Exp.cases] at this
          exact iC q (by omega) (by omega))
    refine ⟨hE, fun c h h' => ?_, fun d h h' => ?_⟩
    · cases c with
      | mk p e =>
      simp only [Case.size] at h h'
      exact scope_kase_spec H p e (hE e (by omega) (by omega)) (by omega)
    · cases d with
      | mk k a nm p l lb c cb f fb =>
      simp only [Dec.size] at h h'
      refine scope_dec_of H _ (by simp only [Dec.size]; omega) (fun q hq => ?_) (fun q hq => ?_)
      · have := Case.mem_sizes hq
        simp only [Dec.case] at this
        cases q with
        | mk p e => simp only [Case.size] at this; exact iE _ (by simp only [Case.exp]; omega) (by simp only [Case.exp]; omega)
      · have := Fun.mem_sizes hq
        simp only [Dec.funs] at this
        cases q with
        | mk s a c => simp only [Fun.size] at this; exact iC _ (by simp only [Fun.case]; omega) (by simp only [Fun.case]; omega)
end
end Go.Proofs.YtinphnakebeloaaGreat

namespace Go.Proofs.YtinphnakebeloaaGreat
open Go Go.Am
set_option linter.unusedVariables false
set_option maxRecDepth 4000
theorem wide_varsTy (n : Nat) : ∀ t ∈ varsTy n, WideTy t := by
  intro t ht
  obtain ⟨i, _, rfl⟩ := List.mem_map.1 ht
  exact wide_tvar _
theorem decl_head_loop (d : Dec) (hp : d.params < 2^28) (s0 : St) : ∀ (k i : Nat) (x : Slot) (s : St), AccH T_Ty s0.toks.length [] s x ((varsTy i).map Ty.enc) → Moves [] [] [] s0 s → i + k = d.params.toNat →
    Ret (decl_head_l0 (d.cells.map .val) (Ty.zero.cells.map .val) x (.val (.int .i64 d.params)) (.val (.int .i64 i)) s) s0 (.tup [(ofTy d.name (varsTy d.params.toNat)).enc, .int .i64 d.params])
  | 0, i, x, s, a, m, h => by
    have hi : i = d.params.toNat := by omega
    have hd : decide ((i : Int) < d.params) = false := by simp only [decide_eq_false_iff_not]; omega
    rw [decl_head_l0_eq]
    have hav := a.av
    obtain ⟨s1, e1, g1⟩ := ty_Of_spec d.name (varsTy i) (encS true ((varsTy i).map Ty.enc)) (list?_encS _ _) (by simp only [varsTy, List.length_map, List.length_range]; omega) (wide_varsTy i) s
    subst hi
    simp only [Ty.enc, Ty.cells_eq] at e1
    simp only [go_sem, Nat.reduceAdd, Nat.reduceLeDiff, hd, Dec.cells_eq, List.map_cons, List.map_nil, avs_cons hav, e1, Ty.enc, Ty.cells_eq]
    exact ⟨s1, rfl, m.toGrew.trans g1⟩
  | k + 1, i, x, s, a, m, h => by
    have hd : decide ((i : Int) < d.params) = true := by simp only [decide_eq_true_eq]; omega
    obtain ⟨x2, s2, e2, a2, m2, -, -, -⟩ := tyAcc (B := [tvar (i : Int)]) a m (by simp) (y := .full [(tvar (i : Int)).enc]) rfl (by simp only [varsTy, List.length_map, List.length_range, List.length_singleton]; omega)
    have hv : varsTy i ++ [tvar (i : Int)] = varsTy (i + 1) := by simp [varsTy, List.range_succ]
    rw [hv] at a2
    have ih := decl_head_loop d hp s0 k (i + 1) x2 s2 a2 m2 (by omega)
    rw [decl_head_l0_eq]
    simp only [tvar, Ty.enc, Ty.cells_mk, List.map_nil, encS_nil] at e2
    simp only [go_sem, Nat.reduceAdd, Nat.reduceLeDiff, hd, e2, wrap_inc (show i < 2^62 by omega)]
    exact ih
theorem decl_head_spec (d : Dec) (hp : d.params < 2^28) (s : St) : Ret (cw (.f F_decl_head) [d.enc] s) s (.tup [(headD d).1.enc, .int .i64 (headD d).2]) := by
  rw [decl_head_eq]
  by_cases h4 : d.kind = 4
  · obtain ⟨s1, e1, g1⟩ := ty_Of_spec sExn [] .nils rfl (by simp) (by simp) s
    refine ⟨s1, ?_, g1⟩
    simp only [sExn, Ty.enc, Ty.cells_eq] at e1
    simp only [go_sem, Nat.reduceAdd, Nat.reduceLeDiff, Dec.enc, Dec.cells_eq, List.map_cons, List.map_nil, h4, decide_true, sExn, e1, headD, cond_true, Ty.enc, Ty.cells_eq]
  · have e1 := decl_head_loop d hp s d.params.toNat 0 (.val .nils) s (AccH.nil _ _ _ _) (.refl _ _ _) (by omega)
    rw [show ((0 : Nat) : Int) = 0 from rfl] at e1
    have e0 : cw (.f F_decl_head) [d.enc] s = decl_head_l0 (d.cells.map .val) (Ty.zero.cells.map .val) (.val .nils) (.val (.int .i64 d.params)) (.val (.int .i64 0)) s := by
      rw [decl_head_eq]
      simp only [go_sem, Nat.reduceAdd, Dec.enc, Dec.cells_eq, List.map_cons, List.map_nil, decide_eq_false h4, Ty.zero]
    rw [← decl_head_eq, e0]
    simpa only [headD, decide_eq_false h4, cond_false] using e1
theorem AccR.kset {e : TypeId} {s0 s s' : St} {x : Slot} {l : List AV} {ml : Nat} (a : AccR e s0 s x l) (m : ∀ hs, Moves [ml] hs hs s s') (t : s'.toks = s.toks) (h : s0.locs.length ≤ ml) : AccR e s0 s' x l :=
  a.relay t ((Moves.grew [] [] a.grew).since (m []) (fun i hi => by simp at hi; subst hi; exact .inr h) (by simp)).toGrew.1
/-- a table, and what is wrong -/
def RetT (r : Res) (s0 : St) (o : List Place × TBad) : Prop := ∃ s' w, r = some (.ret (.val (.tup [w, o.2.enc])), s') ∧ (Slot.val w).list? = some (o.1.map Place.enc) ∧ Grew s0 s'
theorem wide_fn {a b : Ty} (ha : WideTy a) (hb : WideTy b) : WideTy (fnTy a b) := by
  unfold fnTy ofTy
  refine wide_mk (by simp) fun t ht => ?_
  simp only [List.map_cons, List.map_nil, List.mem_cons, List.not_mem_nil, or_false] at ht
  rcases ht with rfl | rfl
  · exact wide_own _ ha
  · exact wide_own _ hb
def zb : List Slot := [.val (.int .i64 0), .val (.int .i64 0), .val (.str [])]
theorem decl_Add_j2_bad (b : TBad) (hb : b.kind ≠ 0) (x6 : Slot) (s : St) : decl_Add_j2 zb x6 (b.cells.map .val) s = some (.ret (.val (.tup [.nils, b.enc])), s) := by
  rw [decl_Add_j2_eq]
  simp only [go_sem, Nat.reduceAdd, Nat.reduceLeDiff, TBad.cells, List.map_cons, List.map_nil, zb, decide_eq_false hb, Bool.not_false]
  rfl
theorem decl_Add_j2_ok (x6 : Slot) (v : AV) (hv : x6.av = some v) (s : St) : decl_Add_j2 zb x6 zb s = some (.ret (.val (.tup [v, TBad.zero.enc])), s) := by
  rw [decl_Add_j2_eq]
  simp only [go_sem, Nat.reduceAdd, Nat.reduceLeDiff, TBad.cells, TBad.zero, zb, avsO_cons hv]
  rfl
section
variable (d : Dec) (g : Str → Option Int) (res : Ty) (vars : Int) (data : Str) (of_ : Int) (tl ml : Nat) (s0 : St)
noncomputable abbrev addL1 (x : Slot) (tag : Int) (i : Nat) (s : St) : Res := decl_Add_l1 (d.cells.map .val) zb x (.val (.mp tl)) (.val (.mp ml)) (.val (.int .i64 tag)) (.val (.int .i64 of_)) (.val (.str data)) (res.cells.map .val) (.val (.int .i64 vars)) zb (.val (encS d.nb (d.cons.map Con.enc))) (.val (.int .i64 d.cons.length)) (.val (.int .i64 i)) s
noncomputable abbrev addJ1 (c : Con) (e : Int) (nm : Str) (x : Slot) (tag : Int) (i : Nat) (s : St) : Res := decl_Add_j1 (d.cells.map .val) zb x (.val (.mp tl)) (.val (.mp ml)) (.val (.int .i64 tag)) (.val (.int .i64 of_)) (.val (.str data)) (res.cells.map .val) (.val (.int .i64 vars)) zb (c.cells.map .val) (.val (.int .i64 e)) (.val (.str nm)) (.val (encS d.nb (d.cons.map Con.enc))) (.val (.int .i64 d.cons.length)) (.val (.int .i64 i)) s
structure AddAt (s : St) (x : Slot) (met : List Str) (out : List Place) : Prop where
  acc : AccR T_Place s0 s x (out.map Place.enc)
  map : MapSI s tl g
  kn : KN s ml met
variable {g tl ml s0}
theorem MapSI.at {s s' : St} {loc : Nat} {g : Str → Option Int} (h : MapSI s loc g) (e : s'.locs = s.locs) : MapSI s' loc g := by
  obtain ⟨es, c, D, h1, h2⟩ := h
  exact ⟨es, c, D, by rw [e]; exact h1, h2⟩
theorem AddAt.move {s s' : St} {x : Slot} {met : List Str} {out : List Place} (h : AddAt g tl ml s0 s x met out) (k : Grew s s') : AddAt g tl ml s0 s' x met out := ⟨h.acc.move k, h.map.move k, h.kn.moves (Moves.grew [] [] k) (by simp)⟩
theorem decl_Add_j1_bad (c : Con) (e : Int) (he : e ≠ 0) (nm : Str) (x : Slot) (tag : Int) (i : Nat) (s : St) : addJ1 d res vars data of_ tl ml c e nm x tag i s = some (.ret (.val (.tup [.nils, (⟨e, c.at_, nm⟩ : TBad).enc])), s) := by
  have e1 := decl_Add_j2_bad ⟨e, c.at_, nm⟩ he x s
  simp only [TBad.cells, List.map_cons, List.map_nil] at e1
  rw [← e1, addJ1, decl_Add_j1_eq]
  simp only [go_sem, Nat.reduceAdd, Nat.reduceLeDiff, Con.cells, Ty.cells_eq, TBad.cells, List.map_cons, List.map_nil, zb, decide_eq_false he, Bool.not_false]
theorem decl_Add_j1_ok (hr : WideTy res) (hne : ml ≠ tl) (h1 : s0.locs.length ≤ tl) (h2 : s0.locs.length ≤ ml) (c : Con) (hc : WideTy c.arg) (nm : Str) (x : Slot) (tag : Int) (i : Nat) (s : St) (met : List Str) (out : List Place) (a : AddAt g tl ml s0 s x met out) (ho : out.length < 2^28) (hm : met.length < 2^40) (ht0 : 0 ≤ tag) (ht : tag < 2^40) (hi : i < 2^40) :
    ∃ x' s', addJ1 d res vars data of_ tl ml c 0 nm x tag i s = addL1 d res vars data of_ tl ml x' (tag + 1) (i + 1) s' ∧ AddAt g tl ml s0 s' x' (met ++ [c.name]) (out ++ [conPlace res vars data tag of_ c]) := by
  obtain ⟨s1, e1, k1, m1, t1, -⟩ := a.kn.inc c.name (by omega)
  have a1 : AddAt g tl ml s0 s1 x (met ++ [c.name]) out := ⟨AccR.kset a.acc m1 t1 h2, a.map.moves (m1 []) (by simpa using Ne.symm hne), k1⟩
  obtain ⟨s2, e2, g2⟩ := ty_Put_spec res [] true s1 hr (by simp) (by simp)
  have a2 := a1.move g2
  have w1 : IntKind.i64.wrap (tag + 1) = tag + 1 := wrap64 (by omega) (by omega)
  have w2 := wrap_inc (show i < 2^62 by omega)
  have gk := a.kn.get c.name
  simp only [List.map_nil, encS_nil] at e2
  cases hh : c.has with
  | true =>
    obtain ⟨s3, e3, g3⟩ := ty_Fn_spec c.arg res s2 hc hr
    have a3 := a2.move g3
    obtain ⟨x', s4, e4, r4⟩ := placeAcc a3.acc (conPlace res vars data tag of_ c) (by omega)
    refine ⟨x', s4, ?_, ⟨r4, ?_, ?_⟩⟩
    · rw [addJ1, decl_Add_j1_eq]
      simp only [Ty.enc, Ty.cells_eq] at e2 e3
      simp only [Place.enc, Place.cells_eq, conPlace, hh, cond_true] at e4
      simp only [go_sem, Nat.reduceAdd, Nat.reduceLeDiff, Con.cells, Ty.cells_eq, List.map_cons, List.map_nil, hh, gk, e1, e2, e3]
      rw [decl_Add_j3_eq]
      simp only [go_sem, Nat.reduceAdd, Nat.reduceLeDiff, hh, e4, w1, w2]
      simp only [addL1, Ty.cells_eq, List.map_cons, List.map_nil]
    · exact a3.map.at (appendS_locs e4)
    · exact a3.kn.at (by rw [appendS_locs e4])
  | false =>
    obtain ⟨x', s4, e4, r4⟩ := placeAcc a2.acc (conPlace res vars data tag of_ c) (by omega)
    refine ⟨x', s4, ?_, ⟨r4, a2.map.at (appendS_locs e4), a2.kn.at (by rw [appendS_locs e4])⟩⟩
    rw [addJ1, decl_Add_j1_eq]
    simp only [Ty.enc, Ty.cells_eq] at e2
    simp only [Place.enc, Place.cells_eq, conPlace, hh, cond_false] at e4
    simp only [go_sem, Nat.reduceAdd, Nat.reduceLeDiff, Con.cells, Ty.cells_eq, List.map_cons, List.map_nil, hh, gk, e1, e2]
    rw [decl_Add_j3_eq]
    simp only [go_sem, Nat.reduceAdd, Nat.reduceLeDiff, hh, e4, w1, w2]
    simp only [addL1, Ty.cells_eq, List.map_cons, List.map_nil]
theorem decl_Add_l1_spec (hr : WideTy res) (hne : ml ≠ tl) (h1 : s0.locs.length ≤ tl) (h2 : s0.locs.length ≤ ml) (hl : d.cons.length < 2^26) (hw : ∀ c ∈ d.cons, WideTy c.arg) : ∀ (suf pre : List Con) (met : List Str) (tag : Int) (out : List Place) (x : Slot) (s : St) (i : Nat), pre ++ suf = d.cons → i = pre.length → AddAt g tl ml s0 s x met out → out.length + suf.length < 2^28 → met.length + suf.length < 2^40 → 0 ≤ tag → tag + suf.length < 2^40 →
    RetT (addL1 d res vars data of_ tl ml x tag i s) s0 (consD d.kind g res vars data of_ suf met tag out)
  | [], pre, met, tag, out, x, s, i, hp, hi, a, ho, hm, ht0, ht => by
    subst hi
    obtain ⟨nl, hav⟩ := a.acc.av
    refine ⟨s, _, ?_, list?_encS nl _, a.acc.grew⟩
    rw [addL1, decl_Add_l1_eq]; simp only [go_sem, end_facts (by simpa using hp), decl_Add_j2_ok x _ hav]
    rfl
  | c :: suf, pre, met, tag, out, x, s, i, hp, hi, a, ho, hm, ht0, ht => by
    subst hi
    obtain ⟨f1, f2, f3⟩ := step_facts (x := .val (encS d.nb (d.cons.map Con.enc))) (list?_encS _ _) hp (by omega) (Con.cells_len c) (by decide)
    have hlt : pre.length < d.cons.length := by rw [← hp]; simp
    have hcm : c ∈ d.cons := by rw [← hp]; simp
    simp only [List.length_cons] at ho hm ht
    have gk := a.kn.get c.name
    have hcnt : decide (((met.count c.name : Nat) : Int) > 0) = decide (c.name ∈ met) := by
      rw [decide_eq_decide]
      constructor
      · intro h; exact List.count_pos_iff.1 (by omega)
      · intro h; have := List.count_pos_iff.2 h; omega
    have bad : ∀ e nm s', e ≠ 0 → Grew s0 s' → conBad d.kind g vars tag met c = (e, nm) → addL1 d res vars data of_ tl ml x tag pre.length s = addJ1 d res vars data of_ tl ml c e nm x tag pre.length s' → RetT (addL1 d res vars data of_ tl ml x tag pre.length s) s0 (consD d.kind g res vars data of_ (c :: suf) met tag out) := fun e nm s' he hg hc hq => by
      refine ⟨s', .nils, ?_, ?_, hg⟩
      · rw [hq, decl_Add_j1_bad _ _ _ _ _ _ _ he]
        simp only [consD, hc]; rw [if_pos he]
      · simp only [consD, hc]; rw [if_pos he]; rfl
    have good : ∀ nm s', AddAt g tl ml s0 s' x met out → (conBad d.kind g vars tag met c).1 = 0 → addL1 d res vars data of_ tl ml x tag pre.length s = addJ1 d res vars data of_ tl ml c 0 nm x tag pre.length s' → RetT (addL1 d res vars data of_ tl ml x tag pre.length s) s0 (consD d.kind g res vars data of_ (c :: suf) met tag out) := fun nm s' ha hc hq => by
      obtain ⟨x', s2, e2, a2⟩ := decl_Add_j1_ok d res vars data of_ hr hne h1 h2 c (hw c hcm) nm x tag pre.length s' met out ha (by omega) (by omega) ht0 (by omega) (by omega)
      have ih := decl_Add_l1_spec hr hne h1 h2 hl hw suf (pre ++ [c]) (met ++ [c.name]) (tag + 1) (out ++ [conPlace res vars data tag of_ c]) x' s2 (pre.length + 1) (by simpa using hp) (by simp) a2 (by simp only [List.length_append, List.length_cons, List.length_nil]; omega) (by simp only [List.length_append, List.length_cons, List.length_nil]; omega) (by omega) (by omega)
      rw [hq, e2]
      simp only [consD]; rw [if_neg (by simpa using hc)]
      exact ih
    by_cases hmem : c.name ∈ met
    · refine bad 9 c.name s (by decide) a.acc.grew (by simp only [conBad, hmem, if_true]) ?_
      rw [addL1, decl_Add_l1_eq]
      simp only [go_sem, Nat.reduceAdd, Nat.reduceLeDiff, addJ1, f1, f2, Con.cells, Ty.cells_eq, List.map_cons, List.map_nil, gk, hcnt, hmem, decide_true]
    · cases hx : (decide (d.kind = 4) && decide (tag > 1023)) with
      | true =>
        refine bad 19 c.name s (by decide) a.acc.grew (by simp only [conBad, hmem, if_false, hx, cond_true]) ?_
        rw [addL1, decl_Add_l1_eq]
        simp only [go_sem, Nat.reduceAdd, Nat.reduceLeDiff, addJ1, f1, f2, Con.cells, Ty.cells_eq, Dec.cells_eq, List.map_cons, List.map_nil, gk, hcnt, hmem, decide_false, hx]
      | false =>
        cases hh : c.has with
        | true =>
          obtain ⟨s1, e1, g1⟩ := decl_wrong_spec g vars c.arg (hw c hcm) tl s a.map
          have e1' := e1
          simp only [Ty.enc, Ty.cells_eq] at e1'
          by_cases hz : (wrongD g vars c.arg).1 = 0
          · refine good c.name s1 (a.move g1) (by simp only [conBad, hmem, if_false, hx, cond_false, hh, cond_true, hz, ne_eq, not_true_eq_false, if_false]) ?_
            rw [addL1, decl_Add_l1_eq]
            simp only [go_sem, Nat.reduceAdd, Nat.reduceLeDiff, addJ1, f1, f2, Con.cells, Ty.cells_eq, Dec.cells_eq, List.map_cons, List.map_nil, gk, hcnt, hmem, decide_false, hx, hh, e1', hz, decide_true, Bool.not_true]
          · refine bad (wrongD g vars c.arg).1 (wrongD g vars c.arg).2 s1 hz (a.acc.grew.trans g1) (by simp only [conBad, hmem, if_false, hx, cond_false, hh, cond_true, hz, ne_eq, not_false_eq_true, if_true]) ?_
            rw [addL1, decl_Add_l1_eq]
            simp only [go_sem, Nat.reduceAdd, Nat.reduceLeDiff, addJ1, f1, f2, Con.cells, Ty.cells_eq, Dec.cells_eq, List.map_cons, List.map_nil, gk, hcnt, hmem, decide_false, hx, hh, e1', decide_eq_false hz, Bool.not_false]
        | false =>
          refine good c.name s a (by simp only [conBad, hmem, if_false, hx, cond_false, hh]) ?_
          rw [addL1, decl_Add_l1_eq]
          simp only [go_sem, Nat.reduceAdd, Nat.reduceLeDiff, addJ1, f1, f2, Con.cells, Ty.cells_eq, Dec.cells_eq, List.map_cons, List.map_nil, gk, hcnt, hmem, decide_false, hx, hh]
end
end Go.Proofs.YtinphnakebeloaaGreat

namespace Go.Proofs.YtinphnakebeloaaGreat
open Go Go.Am
set_option linter.unusedVariables false
set_option maxRecDepth 4000
theorem headD_wide (d : Dec) (h : d.params < 2^28) : WideTy (headD d).1 := by
  unfold headD
  cases decide (d.kind = 4) with
  | true => exact wide_mk (by simp) (by simp)
  | false =>
    refine wide_mk (by simp only [List.length_map, varsTy, List.length_range]; omega) fun t ht => ?_
    obtain ⟨u, hu, rfl⟩ := List.mem_map.1 ht
    exact wide_own _ (wide_varsTy _ u hu)
section
variable (d : Dec) (t : List Place) {tl ml : Nat} {s0 : St}
theorem decl_Add_j0_spec (g : Str → Option Int) (data : Str) (of_ : Int) (hp : d.params < 2^28) (hne : ml ≠ tl) (h1 : s0.locs.length ≤ tl) (h2 : s0.locs.length ≤ ml) (hl : d.cons.length < 2^26) (hw : ∀ c ∈ d.cons, WideTy c.arg) (met : List Str) (tag : Int) (out : List Place) (x : Slot) (s : St) (a : AddAt g tl ml s0 s x met out) (ho : out.length < 2^27) (hm : met.length < 2^27) (ht0 : 0 ≤ tag) (ht : tag < 2^30) :
    RetT (decl_Add_j0 (d.cells.map .val) zb x (.val (.mp tl)) (.val (.mp ml)) (.val (.int .i64 tag)) (.val (.int .i64 of_)) (.val (.str data)) s) s0 (consD d.kind g (headD d).1 (headD d).2 data of_ d.cons met tag out) := by
  obtain ⟨s1, e1, g1⟩ := decl_head_spec d hp s
  have e2 := decl_Add_l1_spec d (headD d).1 (headD d).2 data of_ (headD_wide d hp) hne h1 h2 hl hw d.cons [] met tag out x s1 0 rfl rfl (a.move g1) (by omega) (by omega) ht0 (by omega)
  have e3 : decl_Add_j0 (d.cells.map .val) zb x (.val (.mp tl)) (.val (.mp ml)) (.val (.int .i64 tag)) (.val (.int .i64 of_)) (.val (.str data)) s = addL1 d (headD d).1 (headD d).2 data of_ tl ml x tag 0 s1 := by
    rw [decl_Add_j0_eq]
    simp only [Dec.enc, Dec.cells_eq, Ty.enc, Ty.cells_eq] at e1
    simp only [go_sem, Nat.reduceAdd, Nat.reduceLeDiff, addL1, Dec.cells_eq, Ty.cells_eq, List.map_cons, List.map_nil, e1, List.length_map, zb]
    rfl
  rw [e3]
  exact e2
def tagOf (d : Dec) (l : List Place) : Nat := bif decide (d.kind = 4) then exns l else 0
theorem exns_app (a b : List Place) : exns (a ++ b) = exns a + exns b := by simp [exns]
theorem exns_le (a : List Place) : exns a ≤ a.length := List.length_filter_le _ _
theorem decl_Add_l0_spec (hp : d.params < 2^28) (hne : ml ≠ tl) (h1 : s0.locs.length ≤ tl) (h2 : s0.locs.length ≤ ml) (hl : d.cons.length < 2^26) (hw : ∀ c ∈ d.cons, WideTy c.arg) (htl : t.length < 2^26) (y : Slot) (hy : y.list? = some (t.map Place.enc)) (x : Slot) : ∀ (suf pre : List Place) (s : St) (i : Nat), pre ++ suf = t → i = pre.length → AddAt (knownD t) tl ml s0 s x (pre.map Place.name) t →
    RetT (decl_Add_l0 (d.cells.map .val) zb x (.val (.mp tl)) (.val (.mp ml)) (.val (.int .i64 (tagOf d pre : Nat))) (.val (.int .i64 d.cons.length)) y (.val (.int .i64 t.length)) (.val (.int .i64 i)) s) s0 (addD t d)
  | [], pre, s, i, h, hi, a => by
    subst hi
    have hpt : pre = t := by simpa using h
    subst hpt
    have hx := exns_le pre
    rw [decl_Add_l0_eq]
    by_cases h3 : d.kind = 3
    · have hk4 : d.kind ≠ 4 := by omega
      have gk := a.map.get2 d.name
      cases hg : knownD pre d.name with
      | some v =>
        rw [hg] at gk
        refine ⟨s, .nils, ?_, ?_, a.acc.grew⟩
        · simp only [go_sem, Int.reduceEq, Nat.reduceAdd, Nat.reduceLeDiff, end_facts rfl, Dec.cells_eq, List.map_cons, List.map_nil, h3, decide_true, gk, Option.getD_some, Option.isSome_some, zb, addD, cond_true, hg, TBad.enc, TBad.cells]
        · simp only [addD, h3, decide_true, cond_true, hg, Option.isSome_some]; rfl
      | none =>
        rw [hg] at gk
        obtain ⟨s1, e1, h4, m1, t1, l1⟩ := a.map.set d.name d.params
        have a1 : AddAt (upd (knownD pre) d.name d.params) tl ml s0 s1 x (pre.map Place.name) pre := ⟨AccR.kset a.acc m1 t1 h1, h4, a.kn.moves (m1 []) (by simpa using hne)⟩
        have e2 := decl_Add_j0_spec d (upd (knownD pre) d.name d.params) d.name d.cons.length hp hne h1 h2 hl hw (pre.map Place.name) 0 pre x s1 a1 (by omega) (by rw [List.length_map]; omega) (by omega) (by omega)
        have : addD pre d = consD d.kind (upd (knownD pre) d.name d.params) (headD d).1 (headD d).2 d.name d.cons.length d.cons (pre.map Place.name) 0 pre := by
          simp only [addD, h3, decide_true, cond_true, hg, Option.isSome_none, cond_false]
        rw [this]
        simp only [Dec.cells_eq, List.map_cons, List.map_nil] at e2
        simp only [go_sem, Int.reduceAdd, Int.reduceEq, Nat.reduceAdd, Nat.reduceLeDiff, end_facts rfl, Dec.cells_eq, List.map_cons, List.map_nil, h3, decide_true, gk, Option.getD_none, Option.isSome_none, e1, tagOf, Int.reduceEq, decide_false, cond_false, Int.natCast_zero]
        simp only [h3] at e2
        exact e2
    · by_cases h4 : d.kind = 4
      · have e2 := decl_Add_j0_spec d (knownD pre) sExn 0 hp hne h1 h2 hl hw (pre.map Place.name) (exns pre : Nat) pre x s a (by omega) (by rw [List.length_map]; omega) (by omega) (by omega)
        have : addD pre d = consD d.kind (knownD pre) (headD d).1 (headD d).2 sExn 0 d.cons (pre.map Place.name) (exns pre : Nat) pre := by
          simp only [addD, h4, Int.reduceEq, decide_false, decide_true, cond_true, cond_false]
        rw [this]
        simp only [Dec.cells_eq, List.map_cons, List.map_nil] at e2
        simp only [h4, sExn] at e2
        simp only [go_sem, Int.reduceEq, Nat.reduceAdd, Nat.reduceLeDiff, end_facts rfl, Dec.cells_eq, List.map_cons, List.map_nil, h4, Int.reduceEq, decide_false, decide_true, tagOf, cond_true, sExn]
        exact e2
      · obtain ⟨nl, hav⟩ := a.acc.av
        refine ⟨s, encS nl (pre.map Place.enc), ?_, ?_, a.acc.grew⟩
        rotate_left
        · simp only [addD, decide_eq_false h3, decide_eq_false h4, cond_false]; exact list?_encS nl _
        · simp only [go_sem, Nat.reduceAdd, Nat.reduceLeDiff, end_facts rfl, Dec.cells_eq, List.map_cons, List.map_nil, decide_eq_false h3, decide_eq_false h4, zb, avsO_cons hav, addD, cond_false, TBad.zero]
          rfl
  | p :: suf, pre, s, i, h, hi, a => by
    subst hi
    obtain ⟨f1, f2, f3⟩ := step_facts hy h (by omega) (Place.cells_len p) (by decide)
    have hlt : pre.length < t.length := by rw [← h]; simp
    have hx := exns_le pre
    obtain ⟨s1, e1, k1, m1, t1, -⟩ := a.kn.inc p.name (by rw [List.length_map]; omega)
    have a1 : AddAt (knownD t) tl ml s0 s1 x ((pre ++ [p]).map Place.name) t := ⟨AccR.kset a.acc m1 t1 h2, a.map.moves (m1 []) (by simpa using Ne.symm hne), by simpa using k1⟩
    have ih := decl_Add_l0_spec hp hne h1 h2 hl hw htl y hy x suf (pre ++ [p]) s1 (pre.length + 1) (by simpa using h) (by simp) a1
    have gk := a.kn.get p.name
    have hT : IntKind.i64.wrap ((exns pre : Nat) + 1) = ((exns pre + 1 : Nat) : Int) := wrap_inc (by omega)
    rw [decl_Add_l0_eq]
    by_cases h4 : d.kind = 4
    · by_cases hd : p.data = sExn
      · have : tagOf d (pre ++ [p]) = exns pre + 1 := by simp [tagOf, h4, exns_app, exns, hd]
        rw [this] at ih
        have e0 : tagOf d pre = exns pre := by simp [tagOf, h4]
        rw [e0]
        simp only [Dec.cells_eq, List.map_cons, List.map_nil, h4] at ih
        simp only [sExn] at hd
        simp only [go_sem, Int.reduceEq, Nat.reduceAdd, Nat.reduceLeDiff, f1, f2, f3, Place.cells_eq, Dec.cells_eq, List.map_cons, List.map_nil, gk, e1, h4, decide_true, hd, hT]
        exact ih
      · have : tagOf d (pre ++ [p]) = exns pre := by simp [tagOf, h4, exns_app, exns, hd]
        rw [this] at ih
        have e0 : tagOf d pre = exns pre := by simp [tagOf, h4]
        rw [e0]
        simp only [Dec.cells_eq, List.map_cons, List.map_nil, h4] at ih
        simp only [sExn] at hd
        simp only [go_sem, Int.reduceEq, Nat.reduceAdd, Nat.reduceLeDiff, f1, f2, f3, Place.cells_eq, Dec.cells_eq, List.map_cons, List.map_nil, gk, e1, h4, decide_true, decide_eq_false hd]
        exact ih
    · have : tagOf d (pre ++ [p]) = tagOf d pre := by simp [tagOf, h4]
      rw [this] at ih
      simp only [Dec.cells_eq, List.map_cons, List.map_nil] at ih
      simp only [go_sem, Nat.reduceAdd, Nat.reduceLeDiff, f1, f2, f3, Place.cells_eq, Dec.cells_eq, List.map_cons, List.map_nil, gk, e1, decide_eq_false h4]
      exact ih
end
theorem decl_Add_spec (t : List Place) (d : Dec) (htl : t.length < 2^26) (hwt : ∀ p ∈ t, WideTy p.ty) (hp : d.params < 2^28) (hl : d.cons.length < 2^26) (hw : ∀ c ∈ d.cons, WideTy c.arg) (v : AV) (hv : (Slot.val v).list? = some (t.map Place.enc)) (s : St) : RetT (cw (.f F_decl_Add) [v, d.enc] s) s (addD t d) := by
  obtain ⟨x, s1, e1, a1⟩ := decl_double_spec t (by omega) hwt v hv s
  obtain ⟨s2, e2, h2, g2⟩ := decl_known_spec t (by omega) v hv s1
  have g3 : Grew s2 (s2.addLoc (.map [] 0)) := (Grew.refl _).addLoc _
  have e3 := decl_Add_l0_spec d t (tl := s1.locs.length) (ml := s2.locs.length) (s0 := s) hp (by have := h2.lt; omega) a1.grew.locsLe (Nat.le_trans a1.grew.locsLe g2.locsLe) hl hw htl (.val v) hv x t [] (s2.addLoc (.map [] 0)) 0 rfl rfl ⟨(a1.move g2).move g3, h2.move g3, KN.new s2⟩
  have ht : tagOf d [] = 0 := by unfold tagOf; cases decide (d.kind = 4) <;> rfl
  rw [ht, show ((0 : Nat) : Int) = 0 from rfl] at e3
  have e4 : cw (.f F_decl_Add) [v, d.enc] s = decl_Add_l0 (d.cells.map .val) zb x (.val (.mp s1.locs.length)) (.val (.mp s2.locs.length)) (.val (.int .i64 0)) (.val (.int .i64 d.cons.length)) (.val v) (.val (.int .i64 t.length)) (.val (.int .i64 0)) (s2.addLoc (.map [] 0)) := by
    rw [decl_Add_eq]
    simp only [go_sem, Nat.reduceAdd, Dec.enc, Dec.cells_eq, List.map_cons, List.map_nil, e1, e2, hv, List.length_map, zb]
  rw [e4]
  exact e3
theorem consD_len (k : Int) (g : Str → Option Int) (res : Ty) (vars : Int) (data : Str) (of_ : Int) : ∀ (l : List Con) (met : List Str) (tag : Int) (out : List Place), (consD k g res vars data of_ l met tag out).1.length ≤ out.length + l.length
  | [], _, _, _ => Nat.le_refl _
  | c :: l, met, tag, out => by
    simp only [consD]
    split
    · simp
    · have := consD_len k g res vars data of_ l (met ++ [c.name]) (tag + 1) (out ++ [conPlace res vars data tag of_ c])
      simp only [List.length_append, List.length_cons, List.length_nil] at this ⊢
      omega
theorem consD_wide (k : Int) (g : Str → Option Int) (res : Ty) (hr : WideTy res) (vars : Int) (data : Str) (of_ : Int) : ∀ (l : List Con) (met : List Str) (tag : Int) (out : List Place), (∀ c ∈ l, WideTy c.arg) → (∀ p ∈ out, WideTy p.ty) → ∀ p ∈ (consD k g res vars data of_ l met tag out).1, WideTy p.ty
  | [], _, _, _, _, h => h
  | c :: l, met, tag, out, hl, h => by
    simp only [consD]
    split
    · simp
    · refine consD_wide k g res hr vars data of_ l _ _ _ (fun c hc => hl c (List.mem_cons_of_mem _ hc)) fun p hp => ?_
      rcases List.mem_append.1 hp with hp | hp
      · exact h p hp
      · simp only [List.mem_singleton] at hp
        subst hp
        simp only [conPlace]
        cases c.has with
        | true => exact wide_fn (hl c List.mem_cons_self) hr
        | false => exact wide_put res [] hr (by simp)
theorem addD_len (t : List Place) (d : Dec) : (addD t d).1.length ≤ t.length + d.cons.length := by
  unfold addD
  cases decide (d.kind = 3) with
  | true =>
    simp only [cond_true]
    cases (knownD t d.name).isSome with
    | true => simp
    | false => exact consD_len _ _ _ _ _ _ _ _ _ _
  | false =>
    simp only [cond_false]
    cases decide (d.kind = 4) with
    | true => exact consD_len _ _ _ _ _ _ _ _ _ _
    | false => simp
theorem addD_wide (t : List Place) (d : Dec) (hp : d.params < 2^28) (hl : ∀ c ∈ d.cons, WideTy c.arg) (h : ∀ p ∈ t, WideTy p.ty) : ∀ p ∈ (addD t d).1, WideTy p.ty := by
  unfold addD
  cases decide (d.kind = 3) with
  | true =>
    simp only [cond_true]
    cases (knownD t d.name).isSome with
    | true => simp
    | false => exact consD_wide _ _ _ (headD_wide d hp) _ _ _ _ _ _ _ hl h
  | false =>
    simp only [cond_false]
    cases decide (d.kind = 4) with
    | true => exact consD_wide _ _ _ (headD_wide d hp) _ _ _ _ _ _ _ hl h
    | false => exact h
/-- what a declaration must be for a table to take it -/
def DecFit (d : Dec) : Prop := d.params < 2^28 ∧ ∀ c ∈ d.cons, WideTy c.arg
theorem startD_wide : ∀ p ∈ startD, WideTy p.ty := by
  intro p hp
  simp only [startD, List.mem_cons, List.not_mem_nil, or_false] at hp
  rcases hp with rfl | rfl | rfl | rfl | rfl | rfl <;> exact wide_mk (by simp) (by simp)
def consOf : List Dec → Nat
  | [] => 0
  | d :: l => d.cons.length + consOf l
theorem consOf_le : ∀ l : List Dec, consOf l ≤ Dec.sizes l
  | [] => Nat.zero_le _
  | .mk k a nm p l lb c cb f fb :: r => by
    have h1 := consOf_le r
    have h2 := Con.len_sizes l
    simp only [consOf, Dec.sizes, Dec.size, Dec.cons]; omega
theorem decl_Of_loop (P : List Dec) (hP : P.length < 2^40) (y : Slot) (hy : y.list? = some (P.map Dec.enc)) (s0 : St) : ∀ (suf pre : List Dec) (t : List Place) (x : Slot) (v : AV) (s : St) (i : Nat), pre ++ suf = P → i = pre.length → (∀ d ∈ suf, DecFit d) → t.length + consOf suf < 2^26 → (∀ p ∈ t, WideTy p.ty) → x.av = some v → (Slot.val v).list? = some (t.map Place.enc) → Grew s0 s →
    RetT (decl_Of_l0 zb x y (.val (.int .i64 P.length)) (.val (.int .i64 i)) s) s0 (ofD suf t)
  | [], pre, t, x, v, s, i, hp, hi, hF, hl, hw, hx, hv, g => by
    subst hi
    refine ⟨s, v, ?_, hv, g⟩
    rw [decl_Of_l0_eq]; simp only [go_sem, Nat.reduceAdd, Nat.reduceLeDiff, end_facts (by simpa using hp), zb, avsO_cons hx]
    rfl
  | d :: suf, pre, t, x, v, s, i, hp, hi, hF, hl, hw, hx, hv, g => by
    subst hi
    obtain ⟨f1, f2, f3⟩ := step_facts hy hp (by omega) (Dec.cells_len d) (by decide)
    obtain ⟨hf1, hf2⟩ := hF d List.mem_cons_self
    simp only [consOf] at hl
    obtain ⟨s1, w, e1, hw1, g1⟩ := decl_Add_spec t d (by omega) hw hf1 (by omega) hf2 v hv s
    have hlen := addD_len t d
    have ih := decl_Of_loop P hP y hy s0 suf (pre ++ [d]) (addD t d).1 (.val w) w s1 (pre.length + 1) (by simpa using hp) (by simp) (fun q hq => hF q (List.mem_cons_of_mem _ hq)) (by omega) (addD_wide t d hf1 hf2 hw) rfl hw1 (g.trans g1)
    rw [decl_Of_l0_eq]
    simp only [Dec.enc, Dec.cells_eq] at e1
    simp only [ofD]
    by_cases hz : (addD t d).2.kind = 0
    · rw [if_neg (by simpa using hz)]
      simp only [go_sem, Nat.reduceAdd, Nat.reduceLeDiff, f1, f2, f3, Dec.cells_eq, avs_cons hx, e1, TBad.enc, TBad.cells, List.map_cons, List.map_nil, hz, decide_true, Bool.not_true]
      exact ih
    · rw [if_pos (by simpa using hz)]
      refine ⟨s1, .nils, ?_, rfl, g.trans g1⟩
      simp only [go_sem, Nat.reduceAdd, Nat.reduceLeDiff, f1, f2, f3, Dec.cells_eq, avs_cons hx, e1, TBad.enc, TBad.cells, List.map_cons, List.map_nil, decide_eq_false hz, Bool.not_false, zb]
theorem decl_Of_spec (P : List Dec) (nl : Bool) (hF : ∀ d ∈ P, DecFit d) (hs : Dec.sizes P < 2^25) (s : St) : RetT (cw (.f F_decl_Of) [encS nl (P.map Dec.enc)] s) s (ofD P startD) := by
  obtain ⟨s1, e1, g1⟩ := decl_Start_spec s
  have hl := Dec.len_sizes P
  have hc := consOf_le P
  have e2 := decl_Of_loop P (by omega) (.val (encS nl (P.map Dec.enc))) (list?_encS _ _) s P [] startD (.full (startD.map Place.enc)) (.sl (startD.map Place.enc)) s1 0 rfl rfl hF (by simp only [startD, List.length_cons, List.length_nil]; omega) startD_wide rfl rfl g1
  rw [show ((0 : Nat) : Int) = 0 from rfl] at e2
  rw [decl_Of_eq]
  simp only [go_sem, e1, List.length_map, zb] at e2 ⊢
  exact e2
end Go.Proofs.YtinphnakebeloaaGreat

namespace Go.Proofs.YtinphnakebeloaaGreat
open Go Go.Am
set_option linter.unusedVariables false
def failO (e a : Int) (nm : Str) (b : Option TBad) : Option TBad := match b with | some b => some b | none => some ⟨e, a, nm⟩
def conO (t : List Place) (nm : Str) (a k : Int) (b : Option TBad) : Option TBad := match findD nm t with
  | none => failO 17 a nm b
  | some p => if p.has ≠ decide (k > 0) then failO 19 a nm b else b
/-- to check, with a table -/
def chkI (t : List Place) : ScI (Option TBad) := ⟨conO t, fun nm a => failO 16 a nm, failO, Option.isSome⟩
/-- to gather free names -/
def freeI : ScI (List Str) := ⟨fun _ _ _ st => st, fun nm _ st => addS st nm, fun _ _ _ st => st, fun _ => false⟩
/-- declarations one after another, each with the table that the ones ahead of it make -/
def chkDecs : List Dec → List Place → List Str → Option TBad → List Str × Option TBad
  | [], _, bd, st => (bd, st)
  | d :: r, t, bd, st => chkDecs r (addD t d).1 (scDec (chkI t) d bd st).1 (scDec (chkI t) d bd st).2
def checkD (P : List Dec) : TBad :=
  if rightN (nodesDecs false P) (deepDecs P 0) ≠ .zero then rightN (nodesDecs false P) (deepDecs P 0)
  else if (ofD P startD).2 ≠ .zero then (ofD P startD).2
  else (chkDecs P startD [] none).2.getD .zero
def freeD (e : Exp) : List Str := if rightN (nodesExp e) (deepExp e) ≠ .zero then [] else scExp freeI e [] []
def bindsD (d : Dec) : List Str := if rightN (nodesDecs false [d]) (deepDecs [d] 0) ≠ .zero then [] else namesD d
end Go.Proofs.YtinphnakebeloaaGreat

namespace Go.Am
open Go
@[go_sem] theorem fillS_full {l : List AV} {off sz : Nat} {m : List AV} (h : sz = 1) (k : off + 1 ≤ l.length) (r : List (Nat × Nat × Slot)) : fillS l ((off, sz, .full m) :: r) = fillS (l.take off ++ ([.sl m] ++ l.drop (off + 1))) r := by
  subst h
  exact fillS_cons (x := .full m) (v := .sl m) rfl rfl rfl k r
end Go.Am
namespace Go.Proofs.YtinphnakebeloaaGreat
open Go Go.Am
set_option linter.unusedVariables false
set_option maxRecDepth 4000
theorem eqBad (a b a' b' : Int) (c c' : Str) : eqS (C.ti T_Bad) (.agg [.int .i64 a, .int .i64 b, .str c]) (.agg [.int .i64 a', .int .i64 b', .str c']) = some (decide (TBad.mk a b c = TBad.mk a' b' c')) := by
  unfold eqS
  simp only [T_Bad_k, T_Bad_flat]
  have e1 : (a == a') = decide (a = a') := by rw [Bool.eq_iff_iff]; simp
  have e2 : (b == b') = decide (b = b') := by rw [Bool.eq_iff_iff]; simp
  have e3 : (c == c') = decide (c = c') := by rw [Bool.eq_iff_iff]; simp
  by_cases h1 : a = a' <;> by_cases h2 : b = b' <;> by_cases h3 : c = c' <;> simp [eqAll, TK.has, AV.eqb, e1, e2, e3, h1, h2, h3]
theorem binBad_eql (a b a' b' : Int) (c c' : Str) : binS (C.ti T_Bad) .eql (.val (.agg [.int .i64 a, .int .i64 b, .str c])) (.val (.agg [.int .i64 a', .int .i64 b', .str c'])) = some (.val (.bool (decide (TBad.mk a b c = TBad.mk a' b' c')))) := by
  unfold binS
  simp only [av_val, eqBad]
  rfl
theorem binBad_neq (a b a' b' : Int) (c c' : Str) : binS (C.ti T_Bad) .neq (.val (.agg [.int .i64 a, .int .i64 b, .str c])) (.val (.agg [.int .i64 a', .int .i64 b', .str c'])) = some (.val (.bool (!decide (TBad.mk a b c = TBad.mk a' b' c')))) := by
  unfold binS
  simp only [av_val, eqBad]
  rfl
@[go_sem] theorem binBad_same (a b : Int) (c : Str) : binS (C.ti T_Bad) .eql (.val (.agg [.int .i64 a, .int .i64 b, .str c])) (.val (.agg [.int .i64 a, .int .i64 b, .str c])) = some (.val (.bool true)) := by
  rw [binBad_eql, decide_eq_true rfl]
def kE1 : Exp := .mk 4 0 [] 0 [.mk 1 0 [] 1 [] true [] true [] true] false [] true [] true
def kP : Pat := .mk 6 0 [120] 0 [.mk 2 0 [121] 0 [] true] false
def kE2 : Exp := .mk 2 4 [78, 105, 108] 0 [] true [] true [] true
def kD : List Dec := [.mk 1 0 [] 0 [] true [.mk kP kE1] false [] true]
theorem k1 : rightN (nodesExp kE1) (deepExp kE1) = ⟨19, 0, []⟩ := by decide +kernel
theorem k2 : rightN (nodesExp kE2) (deepExp kE2) = ⟨8, 4, [78, 105, 108]⟩ := by decide +kernel
theorem k3 : countN (nodesDecs false kD) = 5 := by decide +kernel
theorem k4 : varsPat kP = [[120], [121]] := by decide +kernel
end Go.Proofs.YtinphnakebeloaaGreat

namespace Go.Proofs.YtinphnakebeloaaGreat
open Go Go.Am
set_option linter.unusedVariables false
set_option maxRecDepth 4000
/-- a walk in memory -/
def wcells (kl : Nat) (b : TBad) (con free : AV) (stop quiet : Bool) : List Slot := [.val (.mp kl), .val (.int .i64 b.kind), .val (.int .i64 b.at_), .val (.str b.name), .val con, .val free, .val (.bool stop), .val (.bool quiet)]
theorem scope_fail_skip {wl kl : Nat} {b : TBad} {con free : AV} {stop quiet : Bool} {s : St} (hc : s.locs[wl]? = some (.var (wcells kl b con free stop quiet))) (hq : (stop || quiet) = true) (e a : Int) (nm : Str) : cw (.f F_scope_walk_fail) [.vp wl 0, .int .i64 e, .int .i64 a, .str nm] s = some (.ret (.val (.tup [])), s) := by
  rw [scope_walk_fail_eq]
  have f : ∀ (t : TI) (off : Nat), ldV t false s (.val (.vp wl off)) = ofSlots t (((wcells kl b con free stop quiet).drop off).take t.size) := fun t off => ldV_vp hc
  cases stop with
  | true => simp only [go_sem, Nat.reduceAdd, Nat.reduceLeDiff, f, wcells, Bool.not_true]
  | false =>
    cases quiet with
    | true => simp only [go_sem, Nat.reduceAdd, Nat.reduceLeDiff, f, wcells, Bool.not_true, Bool.not_false]
    | false => cases hq
theorem scope_fail_do {wl kl : Nat} {b : TBad} {con free : AV} {s : St} (hc : s.locs[wl]? = some (.var (wcells kl b con free false false))) (e a : Int) (nm : Str) : cw (.f F_scope_walk_fail) [.vp wl 0, .int .i64 e, .int .i64 a, .str nm] s = some (.ret (.val (.tup [])), { s with locs := s.locs.set wl (.var (wcells kl ⟨e, a, nm⟩ con free true false)) }) := by
  rw [scope_walk_fail_eq]
  have f : ∀ (t : TI) (off : Nat), ldV t false s (.val (.vp wl off)) = ofSlots t (((wcells kl b con free false false).drop off).take t.size) := fun t off => ldV_vp hc
  have g1 : stV s (.val (.vp wl 1)) [.val (.int .i64 e), .val (.int .i64 a), .val (.str nm)] = some { s with locs := s.locs.set wl (.var (wcells kl ⟨e, a, nm⟩ con free false false)) } := stV_vp hc (by simp [wcells])
  have g2 : stV { s with locs := s.locs.set wl (.var (wcells kl ⟨e, a, nm⟩ con free false false)) } (.val (.vp wl 6)) [.val (.bool true)] = some { s with locs := s.locs.set wl (.var (wcells kl ⟨e, a, nm⟩ con free true false)) } := by
    rw [stV_vp (cs := wcells kl ⟨e, a, nm⟩ con free false false) (set_at hc) (by simp [wcells])]
    simp only [List.set_set]
    rfl
  simp only [go_sem, Nat.reduceAdd, Nat.reduceLeDiff, f, wcells, Bool.not_false]
  simp only [wcells] at g1 g2
  simp only [go_sem, g1, g2]
section
variable (t : List Place) (wl kl vl tl : Nat)
/-- what a check keeps in memory -/
def ChkR (n : Nat) (st : Option TBad) (h : List Nat) (s : St) : Prop := h = [] ∧ s.locs[wl]? = some (.var (wcells kl (st.getD .zero) (.fn F_scope_Check_2 [.vp tl 0, .vp vl 0]) (.fn F_scope_Check_1 [.vp vl 0]) st.isSome false)) ∧ s.locs[vl]? = some (.var [.val (.vp wl 0)]) ∧ ∃ x v, s.locs[tl]? = some (.var [x]) ∧ x.av = some v ∧ (Slot.val v).list? = some (t.map Place.enc)
variable {t wl kl vl tl}
theorem ChkR.fail (h1 : wl ≠ vl) (h2 : wl ≠ tl) {n : Nat} {st : Option TBad} {h : List Nat} {s : St} (w : ChkR t wl kl vl tl n st h s) (e a : Int) (nm : Str) :
    ∃ s' h', cw (.f F_scope_walk_fail) [.vp wl 0, .int .i64 e, .int .i64 a, .str nm] s = some (.ret (.val (.tup [])), s') ∧ ChkR t wl kl vl tl n (failO e a nm st) h' s' ∧ Moves [wl, vl, tl] h h' s s' := by
  obtain ⟨rfl, c1, c2, x, v, c3, c4, c5⟩ := w
  cases st with
  | some b => exact ⟨s, [], scope_fail_skip c1 rfl e a nm, ⟨rfl, c1, c2, x, v, c3, c4, c5⟩, .refl _ _ _⟩
  | none =>
    refine ⟨_, [], scope_fail_do c1 e a nm, ⟨rfl, set_at c1, ?_, x, v, ?_, c4, c5⟩, (Moves.refl _ _ _).setLoc (.inl (by simp)) _⟩
    · simp only; rw [List.getElem?_set_ne h1]; exact c2
    · simp only; rw [List.getElem?_set_ne h2]; exact c3
theorem ChkR.grew {n : Nat} {st : Option TBad} {h : List Nat} {s s' : St} (w : ChkR t wl kl vl tl n st h s) (g : Grew s s') : ChkR t wl kl vl tl n st h s' := by
  obtain ⟨rfl, c1, c2, x, v, c3, c4, c5⟩ := w
  exact ⟨rfl, g.loc c1, g.loc c2, x, v, g.loc c3, c4, c5⟩
theorem chk_ok (h1 : wl ≠ vl) (h2 : wl ≠ tl) (hk : kl ≠ wl ∧ kl ≠ vl ∧ kl ≠ tl) (hl : t.length < 2^40) (hw : ∀ p ∈ t, WideTy p.ty) : ScOK (chkI t) wl kl [wl, vl, tl] F_scope_Check_2 [.vp tl 0, .vp vl 0] F_scope_Check_1 [.vp vl 0] (ChkR t wl kl vl tl) where
  cell := fun {n st h s} w => ⟨_, _, w.2.1⟩
  con := fun {n st h s} nm a k w => by
    obtain ⟨rfl, c1, c2, x, v, c3, c4, c5⟩ := w
    obtain ⟨s1, e1, g1⟩ := decl_Find_spec nm t hl hw v c5 s
    have w1 : ChkR t wl kl vl tl n st [] s1 := ChkR.grew (n := n) ⟨rfl, c1, c2, x, v, c3, c4, c5⟩ g1
    have f1 : ldV (C.ti T_Table) false s (.val (.vp tl 0)) = some x := by rw [ldV_vp c3]; simp only [go_sem, Nat.reduceAdd, Nat.reduceLeDiff]
    have f2 : ldV (C.ti T_P_walk) false s1 (.val (.vp vl 0)) = some (.val (.vp wl 0)) := by rw [ldV_vp (g1.loc c2)]; simp only [go_sem, Nat.reduceAdd, Nat.reduceLeDiff]
    have m1 : Moves [wl, vl, tl] [] [] s s1 := .grew _ _ g1
    cases hf : findD nm t with
    | none =>
      obtain ⟨s2, h2', e2, w2, m2⟩ := w1.fail h1 h2 17 a nm
      refine ⟨s2, h2', ?_, by simpa only [chkI, conO, hf] using w2, m1.trans m2⟩
      rw [hf] at e1
      simp only [foundD, Place.enc, Place.cells_eq, Place.zero] at e1
      rw [scope_Check_2_eq]
      simp only [go_sem, Nat.reduceAdd, Nat.reduceLeDiff, f1, avs_cons c4, e1, f2, e2, Bool.not_false]
    | some p =>
      rw [hf] at e1
      simp only [foundD, Place.enc, Place.cells_eq] at e1
      by_cases hh : p.has = decide (k > 0)
      · refine ⟨s1, [], ?_, by simpa only [chkI, conO, hf, hh, ne_eq, not_true_eq_false, if_false] using w1, m1⟩
        rw [scope_Check_2_eq]
        have hn : ∀ b : Bool, binS (C.ti T_bool) .neq (.val (.bool b)) (.val (.bool b)) = some (.val (.bool false)) := fun b => by cases b <;> rfl
        simp only [go_sem, Nat.reduceAdd, Nat.reduceLeDiff, f1, avs_cons c4, e1, f2, Bool.not_true, hh, hn]
      · obtain ⟨s2, h2', e2, w2, m2⟩ := w1.fail h1 h2 19 a nm
        refine ⟨s2, h2', ?_, by simpa only [chkI, conO, hf, hh, ne_eq, not_false_eq_true, if_true] using w2, m1.trans m2⟩
        rw [scope_Check_2_eq]
        have hn : binS (C.ti T_bool) .neq (.val (.bool p.has)) (.val (.bool (decide (k > 0)))) = some (.val (.bool true)) := by
          revert hh; cases p.has <;> cases decide (k > 0) <;> intro hh <;> first | rfl | exact absurd rfl hh
        simp only [go_sem, Nat.reduceAdd, Nat.reduceLeDiff, f1, avs_cons c4, e1, f2, Bool.not_true, hn, e2]
  free := fun {n st h s} nm a w => by
    have c2 := w.2.2.1
    obtain ⟨s2, h2', e2, w2, m2⟩ := ChkR.fail (n := n) h1 h2 (st := st) ⟨w.1, w.2⟩ 16 a nm
    refine ⟨s2, h2', ?_, w2, m2⟩
    have f2 : ldV (C.ti T_P_walk) false s (.val (.vp vl 0)) = some (.val (.vp wl 0)) := by rw [ldV_vp c2]; simp only [go_sem, Nat.reduceAdd, Nat.reduceLeDiff]
    rw [scope_Check_1_eq]
    simp only [go_sem, f2, e2]
  fail := fun {n st h s} e nm a w => ChkR.fail (n := n) h1 h2 ⟨w.1, w.2⟩ e a nm
  stab := fun {n st h s s'} w hl ht => by
    obtain ⟨rfl, c1, c2, x, v, c3, c4, c5⟩ := w
    exact ⟨rfl, by rw [hl wl (by simp)]; exact c1, by rw [hl vl (by simp)]; exact c2, x, v, by rw [hl tl (by simp)]; exact c3, c4, c5⟩
  held := fun {n st h s} w => by rw [w.1]; simp
  low := fun {n st h s} w i hi => by
    obtain ⟨rfl, c1, c2, x, v, c3, c4, c5⟩ := w
    simp only [List.mem_cons, List.not_mem_nil, or_false] at hi
    rcases hi with rfl | rfl | rfl
    · exact (List.getElem?_eq_some_iff.1 c1).1
    · exact (List.getElem?_eq_some_iff.1 c2).1
    · exact (List.getElem?_eq_some_iff.1 c3).1
  le := fun {n m st h s} w _ => ⟨w.1, w.2⟩
  wA := by simp
  kA := by simp [hk]
end
end Go.Proofs.YtinphnakebeloaaGreat

namespace Go.Proofs.YtinphnakebeloaaGreat
open Go Go.Am
set_option linter.unusedVariables false
set_option maxRecDepth 4000
theorem list_cellOk {v : AV} {l : List AV} (hv : (Slot.val v).list? = some l) : (Slot.val v).cellOk = true ∧ v.cells = [v] := by
  cases v <;> simp [Slot.list?] at hv <;> exact ⟨rfl, rfl⟩
section
variable {wl kl vl tl : Nat}
theorem ChkR.set {t t' : List Place} (h2 : wl ≠ tl) (h3 : vl ≠ tl) {n : Nat} {st : Option TBad} {h : List Nat} {s : St} (w : ChkR t wl kl vl tl n st h s) {v : AV} (hv : (Slot.val v).list? = some (t'.map Place.enc)) :
    stV s (.val (.vp tl 0)) [.val v] = some { s with locs := s.locs.set tl (.var [.val v]) } ∧ ChkR t' wl kl vl tl n st h { s with locs := s.locs.set tl (.var [.val v]) } ∧ Moves [wl, vl, tl] h h s { s with locs := s.locs.set tl (.var [.val v]) } := by
  obtain ⟨rfl, c1, c2, x, v0, c3, c4, c5⟩ := w
  refine ⟨by rw [stV_vp c3 (by simp)]; rfl, ⟨rfl, ?_, ?_, .val v, v, set_at c3, rfl, hv⟩, (Moves.refl _ _ _).setLoc (.inl (by simp)) _⟩
  · simp only; rw [List.getElem?_set_ne (Ne.symm h2)]; exact c1
  · simp only; rw [List.getElem?_set_ne (Ne.symm h3)]; exact c2
theorem scope_Check_loop (h1 : wl ≠ vl) (h2 : wl ≠ tl) (h3 : vl ≠ tl) (hk : kl ≠ wl ∧ kl ≠ vl ∧ kl ≠ tl) (P : List Dec) (hP : P.length < 2^40) (hsz : ∀ d ∈ P, d.size < 2^26) (y : Slot) (hy : y.list? = some (P.map Dec.enc)) : ∀ (suf pre : List Dec) (t : List Place) (n : Nat) (st : Option TBad) (bd : List Str) (s : St) (i : Nat), pre ++ suf = P → i = pre.length → (∀ d ∈ suf, DecFit d) → t.length + consOf suf < 2^26 → (∀ p ∈ t, WideTy p.ty) → RW (ChkR t wl kl vl tl) kl (n + 2 * Dec.sizes suf) st bd [] s →
    ∃ s', scope_Check_l0 zb (.val (.vp tl 0)) (.val (.vp vl 0)) y (.val (.int .i64 P.length)) (.val (.int .i64 i)) s = some (.ret (.val ((chkDecs suf t bd st).2.getD .zero).enc), s') ∧ Moves (kl :: [wl, vl, tl]) [] [] s s'
  | [], pre, t, n, st, bd, s, i, hp, hi, hF, hl, hw, w => by
    subst hi
    refine ⟨s, ?_, .refl _ _ _⟩
    obtain ⟨-, c1, c2, -⟩ := w.r
    have f1 : ldV (C.ti T_P_walk) false s (.val (.vp vl 0)) = some (.val (.vp wl 0)) := by rw [ldV_vp c2]; simp only [go_sem, Nat.reduceAdd, Nat.reduceLeDiff]
    have f2 := fun t off => ldV_vp (t := t) (off := off) c1
    rw [scope_Check_l0_eq]; simp only [go_sem, Nat.reduceAdd, Nat.reduceLeDiff, end_facts (by simpa using hp), f1, f2, wcells, zb, chkDecs, TBad.enc, TBad.cells]
  | d :: suf, pre, t, n, st, bd, s, i, hp, hi, hF, hl, hw, w => by
    subst hi
    obtain ⟨f1, f2, f3⟩ := step_facts hy hp (by omega) (Dec.cells_len d) (by decide)
    obtain ⟨hf1, hf2⟩ := hF d List.mem_cons_self
    simp only [consOf] at hl
    simp only [Dec.sizes] at w
    have H := chk_ok h1 h2 hk (t := t) (by omega) hw
    obtain ⟨s1, h', bf, bc, ns, e1, w1, m1, -, -⟩ := (scope_walk_all H d.size).2.2 d (Nat.le_refl _) (hsz d (by rw [← hp]; simp)) (n + 2 * Dec.sizes suf) st bd [] s (w.le H (by omega))
    obtain rfl : h' = [] := w1.r.1
    obtain ⟨-, c1, c2, x, v, c3, c4, c5⟩ := w1.r
    obtain ⟨s2, u, e2, hu, g2⟩ := decl_Add_spec t d (by omega) hw hf1 (by omega) hf2 v c5 s1
    have w2 := w1.grew H g2
    obtain ⟨e3, r3, m3⟩ := ChkR.set (t' := (addD t d).1) h2 h3 w2.r hu
    have hlen := addD_len t d
    have w3 : RW (ChkR (addD t d).1 wl kl vl tl) kl (n + 2 * Dec.sizes suf) (scDec (chkI t) d bd st).2 (scDec (chkI t) d bd st).1 [] { s2 with locs := s2.locs.set tl (.var [.val u]) } := ⟨r3, w2.kn.moves m3 (by simp [hk]), w2.few⟩
    obtain ⟨s4, e4, m4⟩ := scope_Check_loop h1 h2 h3 hk P hP hsz y hy suf (pre ++ [d]) (addD t d).1 n _ _ _ (pre.length + 1) (by simpa using hp) (by simp) (fun q hq => hF q (List.mem_cons_of_mem _ hq)) (by omega) (addD_wide t d hf1 hf2 hw) w3
    refine ⟨s4, ?_, ((m1.trans (Moves.grew _ _ g2)).trans (m3.wider (by simp +contextual))).trans m4⟩
    obtain ⟨-, -, c2', -⟩ := w.r
    have f4 : ldV (C.ti T_P_walk) false s (.val (.vp vl 0)) = some (.val (.vp wl 0)) := by rw [ldV_vp c2']; simp only [go_sem, Nat.reduceAdd, Nat.reduceLeDiff]
    have f5 : ldV (C.ti T_Table) false s1 (.val (.vp tl 0)) = some x := by rw [ldV_vp c3]; simp only [go_sem, Nat.reduceAdd, Nat.reduceLeDiff]
    rw [scope_Check_l0_eq]
    simp only [chkDecs]
    rw [← e4]
    simp only [Dec.enc, Dec.cells_eq] at e1 e2
    simp only [go_sem, Nat.reduceAdd, Nat.reduceLeDiff, f1, f2, f3, f4, f5, Dec.cells_eq, e1, avs_cons c4, e2, e3, (list_cellOk hu).1]
end
@[go_sem] theorem cells_mp (n : Nat) : (AV.mp n).cells = [.mp n] := id rfl
@[go_sem] theorem isTup_mp (n : Nat) : (AV.mp n).isTup = false := id rfl
@[go_sem] theorem cells_nilf : AV.nilf.cells = [.nilf] := id rfl
@[go_sem] theorem isTup_nilf : AV.nilf.isTup = false := id rfl
/-- four places more -/
def four (s : St) (a b c d : Am.Obj) : St := (((s.addLoc a).addLoc b).addLoc c).addLoc d
theorem four_locs (s : St) (a b c d : Am.Obj) : (four s a b c d).locs = s.locs ++ [a, b, c, d] := by simp [four, St.addLoc]
theorem four_grew (s : St) (a b c d : Am.Obj) : Grew s (four s a b c d) := ((((Grew.refl s).addLoc a).addLoc b).addLoc c).addLoc d
theorem four_1 (s : St) (a b c d : Am.Obj) : (four s a b c d).locs[s.locs.length]? = some a := by rw [four_locs]; simp
theorem four_2 (s : St) (a b c d : Am.Obj) : (four s a b c d).locs[s.locs.length + 1]? = some b := by rw [four_locs, List.getElem?_append_right (by omega)]; simp
theorem four_3 (s : St) (a b c d : Am.Obj) : (four s a b c d).locs[s.locs.length + 1 + 1]? = some c := by rw [four_locs, List.getElem?_append_right (by omega), show s.locs.length + 1 + 1 - s.locs.length = 2 by omega]; rfl
theorem four_4 (s : St) (a b c d : Am.Obj) : (four s a b c d).locs[s.locs.length + 1 + 1 + 1]? = some d := by rw [four_locs, List.getElem?_append_right (by omega), show s.locs.length + 1 + 1 + 1 - s.locs.length = 3 by omega]; rfl
theorem four_s3 (s : St) (a b c d e : Am.Obj) : ({ (four s a b c d) with locs := (four s a b c d).locs.set (s.locs.length + 1 + 1) e } : St) = four s a b e d := by
  have h1 : (four s a b e d).toks = (four s a b c d).toks := rfl
  have h2 : (four s a b c d).locs.set (s.locs.length + 1 + 1) e = (four s a b e d).locs := by
    rw [four_locs, four_locs, List.set_append_right _ _ (by omega), show s.locs.length + 1 + 1 - s.locs.length = 2 by omega]; rfl
  rw [h2]; rfl
theorem four_s4 (s : St) (a b c d e : Am.Obj) : ({ (four s a b c d) with locs := (four s a b c d).locs.set (s.locs.length + 1 + 1 + 1) e } : St) = four s a b c e := by
  have h2 : (four s a b c d).locs.set (s.locs.length + 1 + 1 + 1) e = (four s a b c e).locs := by
    rw [four_locs, four_locs, List.set_append_right _ _ (by omega), show s.locs.length + 1 + 1 + 1 - s.locs.length = 3 by omega]; rfl
  rw [h2]; rfl
theorem scope_Check_spec (P : List Dec) (nl : Bool) (hs : Dec.sizes P < 2^24) (hF : (rightN (nodesDecs false P) (deepDecs P 0)) = .zero → ∀ d ∈ P, DecFit d) (hok : ∀ n ∈ nodesDecs false P, n.ok) (s : St) : Ret (cw (.f F_scope_Check) [encS nl (P.map Dec.enc)] s) s (checkD P).enc := by
  obtain ⟨s1, e1, g1⟩ := tree_Right_spec P nl s (by omega) hok
  unfold checkD
  by_cases hr : rightN (nodesDecs false P) (deepDecs P 0) = .zero
  · rw [if_neg (by simpa using hr)]
    obtain ⟨s2, w2, e2, hw2, g2⟩ := decl_Of_spec P nl (hF hr) (by omega) s1
    rw [hr] at e1
    by_cases ho : (ofD P startD).2 = .zero
    · rw [if_neg (by simpa using ho)]
      rw [ho] at e2
      obtain ⟨s3, e3, g3⟩ := decl_Start_spec s2
      let c0 : AV → AV → List Slot := fun x y => wcells (s3.locs.length + 1) .zero x y false false
      let F1 : AV := .fn F_scope_Check_1 [.vp (s3.locs.length + 1 + 1 + 1) 0]
      let F2 : AV := .fn F_scope_Check_2 [.vp s3.locs.length 0, .vp (s3.locs.length + 1 + 1 + 1) 0]
      let o1 : Am.Obj := .var [.full (startD.map Place.enc)]
      let S := fun (x y p : AV) => four s3 o1 (.map [] 0) (.var (c0 x y)) (.var [.val p])
      have k1 : stV (S .nilf .nilf .nilp) (.val (.vp (s3.locs.length + 1 + 1 + 1) 0)) [.val (.vp (s3.locs.length + 1 + 1) 0)] = some (S .nilf .nilf (.vp (s3.locs.length + 1 + 1) 0)) := by
        rw [stV_vp (four_4 _ _ _ _ _) (by simp), four_s4]; rfl
      have k2 : ∀ x y, ldV (C.ti T_P_walk) false (S x y (.vp (s3.locs.length + 1 + 1) 0)) (.val (.vp (s3.locs.length + 1 + 1 + 1) 0)) = some (.val (.vp (s3.locs.length + 1 + 1) 0)) := fun x y => by
        rw [ldV_vp (four_4 _ _ _ _ _)]; simp only [go_sem, Nat.reduceAdd, Nat.reduceLeDiff]
      have k3 : stV (S .nilf .nilf (.vp (s3.locs.length + 1 + 1) 0)) (.val (.vp (s3.locs.length + 1 + 1) 5)) [.val F1] = some (S .nilf F1 (.vp (s3.locs.length + 1 + 1) 0)) := by
        rw [stV_vp (four_3 _ _ _ _ _) (by simp [c0, wcells]), four_s3]; rfl
      have k4 : stV (S .nilf F1 (.vp (s3.locs.length + 1 + 1) 0)) (.val (.vp (s3.locs.length + 1 + 1) 4)) [.val F2] = some (S F2 F1 (.vp (s3.locs.length + 1 + 1) 0)) := by
        rw [stV_vp (four_3 _ _ _ _ _) (by simp [c0, wcells]), four_s3]; rfl
      have r0 : ChkR startD (s3.locs.length + 1 + 1) (s3.locs.length + 1) (s3.locs.length + 1 + 1 + 1) s3.locs.length (0 + 2 * Dec.sizes P) none [] (S F2 F1 (.vp (s3.locs.length + 1 + 1) 0)) := ⟨rfl, four_3 _ _ _ _ _, four_4 _ _ _ _ _, _, .sl (startD.map Place.enc), four_1 _ _ _ _ _, rfl, rfl⟩
      have n0 : KN (S F2 F1 (.vp (s3.locs.length + 1 + 1) 0)) (s3.locs.length + 1) [] := ⟨_, ⟨[], 0, [], four_2 _ _ _ _ _, .nil⟩, fun k => by simp⟩
      have hlen := Dec.len_sizes P
      have hc := consOf_le P
      obtain ⟨s4, e4, m4⟩ := scope_Check_loop (wl := s3.locs.length + 1 + 1) (kl := s3.locs.length + 1) (vl := s3.locs.length + 1 + 1 + 1) (tl := s3.locs.length) (by omega) (by omega) (by omega) (by omega) P (by omega) (fun d hd => by have := Dec.mem_sizes hd; omega) (.val (encS nl (P.map Dec.enc))) (list?_encS _ _) P [] startD 0 none [] (S F2 F1 (.vp (s3.locs.length + 1 + 1) 0)) 0 rfl rfl (hF hr) (by simp only [startD, List.length_cons, List.length_nil]; omega) startD_wide ⟨r0, n0, by simp only [List.length_nil]; omega⟩
      refine ⟨s4, ?_, ((g1.trans g2).trans g3).trans ((Moves.grew [] [] (four_grew s3 _ _ _ _)).next m4 fun i hi => .inr ?_).toGrew⟩
      · rw [show ((0 : Nat) : Int) = 0 from rfl] at e4
        rw [← e4]
        simp only [TBad.enc, TBad.cells, TBad.zero] at e1 e2
        rw [scope_Check_eq]
        simp only [S, four, F1, F2, o1, c0, wcells, TBad.zero] at k1 k2 k3 k4 ⊢
        simp only [go_sem, Nat.reduceAdd, Nat.reduceLeDiff, e1, e2, e3, binBad_neq, decide_eq_true (Eq.refl (TBad.mk 0 0 [])), Bool.not_true, k1, k2, k3, k4, List.length_map, zb]
      · simp only [List.mem_cons, List.not_mem_nil, or_false] at hi
        omega
    · rw [if_pos (by simpa using ho)]
      refine ⟨s2, ?_, g1.trans g2⟩
      revert e2 ho
      generalize (ofD P startD).2 = b
      intro e2 ho
      obtain ⟨k, a, nm⟩ := b
      rw [scope_Check_eq]
      simp only [TBad.enc, TBad.cells, TBad.zero] at e1 e2 ho
      simp only [go_sem, Nat.reduceAdd, Nat.reduceLeDiff, e1, e2, binBad_neq, decide_eq_true (Eq.refl (TBad.mk 0 0 [])), Bool.not_true, decide_eq_false ho, Bool.not_false, TBad.enc, TBad.cells]
  · rw [if_pos (by simpa using hr)]
    refine ⟨s1, ?_, g1⟩
    revert e1 hr
    generalize rightN (nodesDecs false P) (deepDecs P 0) = b
    intro e1 hr
    obtain ⟨k, a, nm⟩ := b
    rw [scope_Check_eq]
    simp only [TBad.enc, TBad.cells, TBad.zero] at e1 hr
    simp only [go_sem, Nat.reduceAdd, Nat.reduceLeDiff, e1, binBad_neq, decide_eq_false hr, Bool.not_false, TBad.enc, TBad.cells]
/-- a list of names -/
def RetL (r : Res) (s0 : St) (l : List Str) : Prop := ∃ x s' v, r = some (.ret x, s') ∧ x.av = some v ∧ (Slot.val v).list? = some (l.map .str) ∧ Grew s0 s'
section
variable (wl kl ol : Nat)
def FreeR (n : Nat) (out : List Str) (h : List Nat) (s : St) : Prop := s.locs[wl]? = some (.var (wcells kl .zero (.fn F_scope_Free_2 []) (.fn F_scope_Free_1 [.vp ol 0]) false true)) ∧ NamesAt ol s out h ∧ out.length + n < 2^28
variable {wl kl ol}
theorem scope_Free_1_spec {s : St} {l : List Str} {h : List Nat} (n : NamesAt ol s l h) (hl : l.length < 2^28) (nm : Str) (a : Int) :
    ∃ s' h', cw (.f F_scope_Free_1) [.str nm, .int .i64 a, .vp ol 0] s = some (.ret (.val (.tup [])), s') ∧ NamesAt ol s' (addS l nm) h' ∧ Moves [ol] h h' s s' := by
  obtain ⟨x, x', s1, s', h', h1, ⟨v, hv, hv2⟩, e1, hc, e2, n2, m2⟩ := n.push hl nm
  have e3 := contains_str_spec nm l v hv2 (by omega) s
  have e4 : ldV (C.ti T_S_string) false s (.val (.vp ol 0)) = some x := by rw [ldV_vp h1]; simp only [go_sem, Nat.reduceAdd, Nat.reduceLeDiff]
  by_cases hm : nm ∈ l
  · refine ⟨s, h, ?_, by rw [addS, if_pos hm]; exact n, .refl _ _ _⟩
    rw [scope_Free_1_eq]
    simp only [go_sem, Nat.reduceAdd, e4, avs_cons hv, e3, hm, decide_true, Bool.not_true]
  · refine ⟨s', h', ?_, by rw [addS, if_neg hm]; exact n2, m2⟩
    rw [scope_Free_1_eq]
    simp only [go_sem, Nat.reduceAdd, e4, avs_cons hv, e3, hm, decide_false, Bool.not_false, e1, hc, e2]
theorem free_ok (h1 : wl ≠ ol) (hk : kl ≠ wl ∧ kl ≠ ol) : ScOK freeI wl kl [wl, ol] F_scope_Free_2 [] F_scope_Free_1 [.vp ol 0] (FreeR wl kl ol) where
  cell := fun {n st h s} w => ⟨_, _, w.1⟩
  con := fun {n st h s} nm a k w => ⟨s, h, by rw [scope_Free_2_eq]; simp only [go_sem], ⟨w.1, w.2.1, by have := w.2.2; simp only [freeI]; omega⟩, .refl _ _ _⟩
  free := fun {n st h s} nm a w => by
    obtain ⟨c1, c2, c3⟩ := w
    obtain ⟨s2, h2, e2, n2, m2⟩ := scope_Free_1_spec c2 (by omega) nm a
    have hle : (addS st nm).length ≤ st.length + 1 := by unfold addS; split <;> simp
    exact ⟨s2, h2, e2, ⟨m2.loc c1 (by simpa using h1), n2, by simp only [freeI]; omega⟩, m2.wider (by simp)⟩
  fail := fun {n st h s} e nm a w => ⟨s, h, scope_fail_skip w.1 rfl e a nm, ⟨w.1, w.2.1, by have := w.2.2; simp only [freeI]; omega⟩, .refl _ _ _⟩
  stab := fun {n st h s s'} w hl ht => ⟨by rw [hl wl (by simp)]; exact w.1, w.2.1.stab (hl ol (by simp)) ht, w.2.2⟩
  held := fun {n st h s} w => w.2.1.held
  low := fun {n st h s} w i hi => by
    simp only [List.mem_cons, List.not_mem_nil, or_false] at hi
    rcases hi with rfl | rfl
    · exact (List.getElem?_eq_some_iff.1 w.1).1
    · exact w.2.1.lt
  le := fun {n m st h s} w k => ⟨w.1, w.2.1, by have := w.2.2; omega⟩
  wA := by simp
  kA := by simp [hk]
end
def three (s : St) (a b c : Am.Obj) : St := ((s.addLoc a).addLoc b).addLoc c
theorem three_locs (s : St) (a b c : Am.Obj) : (three s a b c).locs = s.locs ++ [a, b, c] := by simp [three, St.addLoc]
theorem three_grew (s : St) (a b c : Am.Obj) : Grew s (three s a b c) := (((Grew.refl s).addLoc a).addLoc b).addLoc c
theorem three_1 (s : St) (a b c : Am.Obj) : (three s a b c).locs[s.locs.length]? = some a := by rw [three_locs]; simp
theorem three_2 (s : St) (a b c : Am.Obj) : (three s a b c).locs[s.locs.length + 1]? = some b := by rw [three_locs, List.getElem?_append_right (by omega)]; simp
theorem three_3 (s : St) (a b c : Am.Obj) : (three s a b c).locs[s.locs.length + 1 + 1]? = some c := by rw [three_locs, List.getElem?_append_right (by omega), show s.locs.length + 1 + 1 - s.locs.length = 2 by omega]; rfl
theorem three_s3 (s : St) (a b c e : Am.Obj) : ({ (three s a b c) with locs := (three s a b c).locs.set (s.locs.length + 1 + 1) e } : St) = three s a b e := by
  have h2 : (three s a b c).locs.set (s.locs.length + 1 + 1) e = (three s a b e).locs := by
    rw [three_locs, three_locs, List.set_append_right _ _ (by omega), show s.locs.length + 1 + 1 - s.locs.length = 2 by omega]; rfl
  rw [h2]; rfl
theorem scope_Free_spec (e : Exp) (hs : e.size < 2^24) (hok : ∀ n ∈ nodesExp e, n.ok) (s : St) : RetL (cw (.f F_scope_Free) [e.enc] s) s (freeD e) := by
  obtain ⟨s1, e1, g1⟩ := tree_RightExp_spec e s (by omega) hok
  unfold freeD
  by_cases hr : rightN (nodesExp e) (deepExp e) = .zero
  · rw [if_neg (by simpa using hr)]
    rw [hr] at e1
    let c0 : AV → AV → Bool → List Slot := fun x y q => wcells (s1.locs.length + 1) .zero x y false q
    let F1 : AV := .fn F_scope_Free_1 [.vp s1.locs.length 0]
    let F2 : AV := .fn F_scope_Free_2 []
    let S := fun (x y : AV) (q : Bool) => three s1 (.var [.val .nils]) (.map [] 0) (.var (c0 x y q))
    have k1 : stV (S .nilf .nilf false) (.val (.vp (s1.locs.length + 1 + 1) 5)) [.val F1] = some (S .nilf F1 false) := by
      rw [stV_vp (three_3 _ _ _ _) (by simp [c0, wcells]), three_s3]; rfl
    have k2 : stV (S .nilf F1 false) (.val (.vp (s1.locs.length + 1 + 1) 4)) [.val F2] = some (S F2 F1 false) := by
      rw [stV_vp (three_3 _ _ _ _) (by simp [c0, wcells]), three_s3]; rfl
    have k3 : stV (S F2 F1 false) (.val (.vp (s1.locs.length + 1 + 1) 7)) [.val (.bool true)] = some (S F2 F1 true) := by
      rw [stV_vp (three_3 _ _ _ _) (by simp [c0, wcells]), three_s3]; rfl
    have r0 : FreeR (s1.locs.length + 1 + 1) (s1.locs.length + 1) s1.locs.length (0 + 2 * e.size) [] [] (S F2 F1 true) := ⟨three_3 _ _ _ _, ⟨_, three_1 _ _ _ _, .inl ⟨rfl, rfl, rfl⟩⟩, by simp only [List.length_nil]; omega⟩
    have n0 : KN (S F2 F1 true) (s1.locs.length + 1) [] := ⟨_, ⟨[], 0, [], three_2 _ _ _ _, .nil⟩, fun k => by simp⟩
    obtain ⟨s2, h2, e2, w2, m2⟩ := (scope_walk_all (free_ok (wl := s1.locs.length + 1 + 1) (kl := s1.locs.length + 1) (ol := s1.locs.length) (by omega) (by omega)) e.size).1 e (Nat.le_refl _) (by omega) 0 [] [] [] _ ⟨r0, n0, by simp only [List.length_nil]; omega⟩
    obtain ⟨x, v, q1, q2, q3⟩ := w2.r.2.1.read
    refine ⟨x, s2, v, ?_, q2, q3, g1.trans (((Moves.grew [] [] (three_grew s1 _ _ _)).next m2 fun i hi => .inr ?_).shrink (g := []) (by simp)).toGrew⟩
    · simp only [TBad.enc, TBad.cells, TBad.zero] at e1
      simp only [Exp.enc, Exp.cells_eq] at e1 e2
      rw [scope_Free_eq]
      simp only [S, three, F1, F2, c0, wcells, TBad.zero] at k1 k2 k3 e2
      simp only [go_sem, Nat.reduceAdd, Nat.reduceLeDiff, Exp.enc, Exp.cells_eq, e1, binBad_neq, decide_eq_true (Eq.refl (TBad.mk 0 0 [])), Bool.not_true, k1, k2, k3, e2, q1]
    · simp only [List.mem_cons, List.not_mem_nil, or_false] at hi
      omega
  · rw [if_pos (by simpa using hr)]
    refine ⟨.val .nils, s1, .nils, ?_, rfl, rfl, g1⟩
    revert e1 hr
    generalize rightN (nodesExp e) (deepExp e) = b
    intro e1 hr
    obtain ⟨k, a, nm⟩ := b
    rw [scope_Free_eq]
    simp only [TBad.enc, TBad.cells, TBad.zero] at e1 hr
    simp only [Exp.enc, Exp.cells_eq] at e1
    simp only [go_sem, Nat.reduceAdd, Nat.reduceLeDiff, Exp.enc, Exp.cells_eq, e1, binBad_neq, decide_eq_false hr, Bool.not_false]
theorem scope_Binds_spec (d : Dec) (hs : d.size < 2^24) (hok : ∀ n ∈ nodesDecs false [d], n.ok) (s : St) : RetL (cw (.f F_scope_Binds) [d.enc] s) s (bindsD d) := by
  obtain ⟨s1, e1, g1⟩ := tree_Right_spec [d] false s (by simp only [Dec.sizes]; omega) hok
  simp only [List.map_cons, List.map_nil, encS_cons] at e1
  unfold bindsD
  by_cases hr : rightN (nodesDecs false [d]) (deepDecs [d] 0) = .zero
  · rw [if_neg (by simpa using hr)]
    rw [hr] at e1
    obtain ⟨x, s2, h2, e2, a2, g2⟩ := scope_names_spec d (by omega) s1
    refine ⟨x, s2, _, ?_, a2.av, list?_encS _ _, g1.trans g2⟩
    simp only [TBad.enc, TBad.cells, TBad.zero] at e1
    simp only [Dec.enc, Dec.cells_eq] at e1 e2
    rw [scope_Binds_eq]
    simp only [go_sem, Nat.reduceAdd, Nat.reduceLeDiff, Dec.enc, Dec.cells_eq, e1, e2, binBad_neq, decide_eq_true (Eq.refl (TBad.mk 0 0 [])), Bool.not_true]
  · rw [if_pos (by simpa using hr)]
    refine ⟨.val .nils, s1, .nils, ?_, rfl, rfl, g1⟩
    revert e1 hr
    generalize rightN (nodesDecs false [d]) (deepDecs [d] 0) = b
    intro e1 hr
    obtain ⟨k, a, nm⟩ := b
    rw [scope_Binds_eq]
    simp only [TBad.enc, TBad.cells, TBad.zero] at e1 hr
    simp only [Dec.enc, Dec.cells_eq] at e1
    simp only [go_sem, Nat.reduceAdd, Nat.reduceLeDiff, Dec.enc, Dec.cells_eq, e1, binBad_neq, decide_eq_false hr, Bool.not_false]
end Go.Proofs.YtinphnakebeloaaGreat

namespace Go.Am
open Go
/-- each expression and each pattern that the list tells has its own nodes in the list, is no deeper than D and no bigger than S -/
def Within (l : List TNode) (D : Int) (S : Nat) : Prop := ∀ n ∈ l, (∀ e, n = .exp e → (∃ a b, l = a ++ (nodesExp e ++ b)) ∧ deepExp e ≤ D ∧ e.size ≤ S) ∧ (∀ p, n = .pat p → (∃ a b, l = a ++ (nodesPat p ++ b)) ∧ deepPat p ≤ D ∧ p.size ≤ S)
theorem Within.nil (D : Int) (S : Nat) : Within [] D S := fun n hn => by cases hn
theorem Within.mono {l : List TNode} {D E : Int} {S T : Nat} (h : Within l D S) (hd : D ≤ E) (hs : S ≤ T) : Within l E T := fun n hn => ⟨fun e he => by
  obtain ⟨h1, h2, h3⟩ := (h n hn).1 e he
  exact ⟨h1, by omega, by omega⟩, fun p hp => by
  obtain ⟨h1, h2, h3⟩ := (h n hn).2 p hp
  exact ⟨h1, by omega, by omega⟩⟩
theorem Within.app {l m : List TNode} {D : Int} {S : Nat} (h : Within l D S) (g : Within m D S) : Within (l ++ m) D S := fun n hn => by
  rcases List.mem_append.1 hn with hn | hn
  · refine ⟨fun e he => ?_, fun p hp => ?_⟩
    · obtain ⟨⟨a, b, hab⟩, hd⟩ := (h n hn).1 e he
      exact ⟨⟨a, b ++ m, by rw [hab]; simp⟩, hd⟩
    · obtain ⟨⟨a, b, hab⟩, hd⟩ := (h n hn).2 p hp
      exact ⟨⟨a, b ++ m, by rw [hab]; simp⟩, hd⟩
  · refine ⟨fun e he => ?_, fun p hp => ?_⟩
    · obtain ⟨⟨a, b, hab⟩, hd⟩ := (g n hn).1 e he
      exact ⟨⟨l ++ a, b, by rw [hab]; simp⟩, hd⟩
    · obtain ⟨⟨a, b, hab⟩, hd⟩ := (g n hn).2 p hp
      exact ⟨⟨l ++ a, b, by rw [hab]; simp⟩, hd⟩
theorem Within.cons {l : List TNode} {D : Int} {S : Nat} {n : TNode} (h : Within l D S) (h1 : ∀ e, n = .exp e → n :: l = nodesExp e ∧ deepExp e ≤ D ∧ e.size ≤ S) (h2 : ∀ p, n = .pat p → n :: l = nodesPat p ∧ deepPat p ≤ D ∧ p.size ≤ S) : Within (n :: l) D S := fun m hm => by
  rcases List.mem_cons.1 hm with rfl | hm
  · exact ⟨fun e he => ⟨⟨[], [], by rw [(h1 e he).1]; simp⟩, (h1 e he).2⟩, fun p hp => ⟨⟨[], [], by rw [(h2 p hp).1]; simp⟩, (h2 p hp).2⟩⟩
  · refine ⟨fun e he => ?_, fun p hp => ?_⟩
    · obtain ⟨⟨a, b, hab⟩, hd⟩ := (h m hm).1 e he
      exact ⟨⟨n :: a, b, by rw [hab]; simp⟩, hd⟩
    · obtain ⟨⟨a, b, hab⟩, hd⟩ := (h m hm).2 p hp
      exact ⟨⟨n :: a, b, by rw [hab]; simp⟩, hd⟩
mutual
theorem within_ty (a : Int) (D : Int) (S : Nat) : ∀ t : Ty, Within (nodesTy a t) D S
  | .mk k n s l b => by
    rw [nodesTy]
    exact (within_tys a D S l).cons (fun e he => by cases he) (fun p hp => by cases hp)
theorem within_tys (a : Int) (D : Int) (S : Nat) : ∀ l : List Ty, Within (nodesTys a l) D S
  | [] => by rw [nodesTys]; exact .nil D S
  | t :: l => by rw [nodesTys]; exact (within_ty a D S t).app (within_tys a D S l)
end
mutual
theorem within_pat : ∀ t : Pat, Within (nodesPat t) (deepPat t) t.size
  | .mk k a s n l b => by
    have h := within_pats l 0
    rw [nodesPat]
    refine (h.mono (by simp only [deepPat]; omega) (by simp only [Pat.size]; omega)).cons (fun e he => by cases he) (fun p hp => by cases hp; exact ⟨by rw [nodesPat], Int.le_refl _, Nat.le_refl _⟩)
theorem within_pats : ∀ (l : List Pat) (n : Int), Within (nodesPats l) (deepPats l n) (Pat.sizes l)
  | [], n => by rw [nodesPats]; exact .nil _ _
  | t :: l, n => by
    rw [nodesPats, deepPats, Pat.sizes]
    have h1 := (deepPats_le l (maxI n (deepPat t))).1
    have h2 := maxI_eq n (deepPat t)
    exact ((within_pat t).mono (by omega) (by omega)).app ((within_pats l _).mono (Int.le_refl _) (by omega))
end
theorem within_con (c : Con) (D : Int) (S : Nat) : Within (nodesCon c) D S := by
  unfold nodesCon
  refine Within.cons ?_ (fun e he => by cases he) (fun p hp => by cases hp)
  cases c.has
  · exact .nil D S
  · exact within_ty _ D S _
theorem within_cons (D : Int) (S : Nat) : ∀ l : List Con, Within (nodesCons l) D S
  | [] => by rw [nodesCons]; exact .nil D S
  | t :: l => by rw [nodesCons]; exact (within_con t D S).app (within_cons D S l)
mutual
theorem within_exp : ∀ t : Exp, Within (nodesExp t) (deepExp t) t.size
  | .mk k a s n l lb c cb d db => by
    have h1 := within_decs true d 0
    have h2 := within_exps l (maxI (deepDecs d 0) (deepCases c 0))
    have h3 := within_cases c 0
    have g1 := (deepExps_le l (maxI (deepDecs d 0) (deepCases c 0))).1
    have g2 := maxI_eq (deepDecs d 0) (deepCases c 0)
    rw [nodesExp]
    refine Within.cons ((h1.mono ?_ ?_).app ((h2.mono ?_ ?_).app (h3.mono ?_ ?_))) (fun e he => by cases he; exact ⟨by rw [nodesExp], Int.le_refl _, Nat.le_refl _⟩) (fun p hp => by cases hp)
    all_goals simp only [deepExp, Exp.size]; omega
theorem within_exps : ∀ (l : List Exp) (n : Int), Within (nodesExps l) (deepExps l n) (Exp.sizes l)
  | [], n => by rw [nodesExps]; exact .nil _ _
  | t :: l, n => by
    rw [nodesExps, deepExps, Exp.sizes]
    have h1 := (deepExps_le l (maxI n (deepExp t))).1
    have h2 := maxI_eq n (deepExp t)
    exact ((within_exp t).mono (by omega) (by omega)).app ((within_exps l _).mono (Int.le_refl _) (by omega))
theorem within_case : ∀ c : Case, Within (nodesCase c) (deepCase c) c.size
  | .mk p e => by
    have h1 := within_pat p
    have h2 := within_exp e
    have h3 := maxI_eq 0 (deepPat p)
    have h4 := maxI_eq (maxI 0 (deepPat p)) (deepExp e)
    rw [nodesCase, deepCase, Case.size]
    exact (h1.mono (by omega) (by omega)).app (h2.mono (by omega) (by omega))
theorem within_cases : ∀ (l : List Case) (n : Int), Within (nodesCases l) (deepCases l n) (Case.sizes l)
  | [], n => by rw [nodesCases]; exact .nil _ _
  | .mk p e :: l, n => by
    have h1 := within_pat p
    have h2 := within_exp e
    have h3 := maxI_eq n (deepPat p)
    have h4 := maxI_eq (maxI n (deepPat p)) (deepExp e)
    have h5 := (deepCases_le l (maxI (maxI n (deepPat p)) (deepExp e))).1
    have h6 := within_cases l (maxI (maxI n (deepPat p)) (deepExp e))
    rw [nodesCases, nodesCase, deepCases, Case.sizes, Case.size]
    exact ((h1.mono (by omega) (by omega)).app (h2.mono (by omega) (by omega))).app (h6.mono (Int.le_refl _) (by omega))
theorem within_decs (i : Bool) : ∀ (l : List Dec) (n : Int), Within (nodesDecs i l) (deepDecs l n) (Dec.sizes l)
  | [], n => by rw [nodesDecs]; exact .nil _ _
  | .mk k a s p l lb c cb f fb :: r, n => by
    have h1 := within_cases c 0
    have h2 := within_funs f (deepCases c 0)
    have h3 := fun D S => within_cons D S l
    have h4 := within_decs i r (maxI n (deepCons l (deepFuns f (deepCases c 0)) + 1))
    have g1 := (deepFuns_le f (deepCases c 0)).1
    have g2 := (deepCons_le l (deepFuns f (deepCases c 0))).1
    have g3 := (deepDecs_le r (maxI n (deepCons l (deepFuns f (deepCases c 0)) + 1))).1
    have g4 := maxI_eq n (deepCons l (deepFuns f (deepCases c 0)) + 1)
    rw [nodesDecs, nodesDec, deepDecs, Dec.sizes, Dec.size]
    exact (Within.cons ((h1.mono (by omega) (by omega)).app ((h2.mono (by omega) (by omega)).app (h3 _ _))) (fun e he => by cases he) (fun p hp => by cases hp)).app (h4.mono (Int.le_refl _) (by omega))
theorem within_funs : ∀ (l : List Fun) (n : Int), Within (nodesFuns l) (deepFuns l n) (Fun.sizes l)
  | [], n => by rw [nodesFuns]; exact .nil _ _
  | .mk s a c :: l, n => by
    have h1 := within_case c
    have h2 := within_funs l (maxI n (deepCase c))
    have g1 := (deepFuns_le l (maxI n (deepCase c))).1
    have g2 := maxI_eq n (deepCase c)
    rw [nodesFuns, nodesFun, deepFuns, Fun.sizes, Fun.size]
    exact (Within.cons (h1.mono (by omega) (by omega)) (fun e he => by cases he) (fun p hp => by cases hp)).app (h2.mono (Int.le_refl _) (by omega))
end
theorem firstBad_all : ∀ l : List TNode, firstBad l = .zero → ∀ n ∈ l, n.bad.kind = 0
  | [], _, n, hn => by cases hn
  | u :: l, h, n, hn => by
    rw [firstBad] at h
    by_cases hu : u.bad.kind = 0
    · rw [decide_eq_true hu, cond_true] at h
      rcases List.mem_cons.1 hn with rfl | hn
      · exact hu
      · exact firstBad_all l h n hn
    · rw [decide_eq_false hu, cond_false] at h
      rw [h] at hu
      exact absurd rfl hu
end Go.Am

namespace Go.Am
open Go
set_option linter.unusedVariables false
theorem right_first {l : List TNode} {D : Int} (h : rightN l D = .zero) : firstBad l = .zero := by
  unfold rightN at h
  cases h1 : decide (countN l > 8192) with
  | true => rw [h1, cond_true] at h; cases h
  | false =>
    rw [h1, cond_false] at h
    cases h2 : decide (D > 100) with
    | true => rw [h2, cond_true] at h; cases h
    | false => rw [h2, cond_false] at h; exact h
theorem wrong0 {n : TNode} (h : n.bad.kind = 0) : n.wrong.1 = 0 := by
  unfold TNode.bad mkBad at h
  by_cases e : n.wrong.1 = 0
  · exact e
  · rw [decide_eq_false e, cond_false] at h; exact h
theorem right_nodes {l : List TNode} {D : Int} (h : rightN l D = .zero) : ∀ n ∈ l, n.wrong.1 = 0 := fun n hn => wrong0 (firstBad_all l (right_first h) n hn)
theorem firstBad_kind : ∀ l : List TNode, (firstBad l).kind = 0 → firstBad l = .zero
  | [], _ => rfl
  | n :: l, h => by
    rw [firstBad] at h ⊢
    by_cases e : n.bad.kind = 0
    · rw [decide_eq_true e, cond_true] at h ⊢; exact firstBad_kind l h
    · rw [decide_eq_false e, cond_false] at h; exact absurd h e
theorem right_kind {l : List TNode} {D : Int} : (rightN l D).kind = 0 ↔ rightN l D = .zero := by
  constructor
  · unfold rightN
    cases decide (countN l > 8192) with
    | true => intro h; cases h
    | false =>
      cases decide (D > 100) with
      | true => intro h; cases h
      | false => exact firstBad_kind l
  · intro h; rw [h]; rfl
structure DecIs (k : Int) (nm : Str) (p nl nc nf : Int) (inn : Bool) : Prop where
  kind : k = 1 ∨ k = 2 ∨ k = 3 ∨ k = 4
  val : k = 1 → nc = 1 ∧ ¬ nf > 0 ∧ ¬ nl > 0
  fn : k = 2 → ¬ nc > 0 ∧ ¬ nl > 0 ∧ nf > 0
  data : k = 3 → ¬ nc > 0 ∧ ¬ nf > 0 ∧ 0 ≤ p ∧ p ≤ 8 ∧ lowB nm = true ∧ nl > 0 ∧ nl ≤ 64
  exn : k = 4 → ¬ nc > 0 ∧ ¬ nf > 0 ∧ nl = 1
  bare : k ≠ 3 → p = 0 ∧ nm = []
  inn : inn = true → k = 1 ∨ k = 2
theorem decC_is {k : Int} {nm : Str} {p nl nc nf : Int} {inn : Bool} (h : wrongDecC k nm p nl nc nf inn = 0) : DecIs k nm p nl nc nf inn := by
  unfold wrongDecC at h
  by_cases h1 : k = 1
  · subst h1
    simp only [decide_true, cond_true, Int.reduceEq, decide_false, cond_false] at h
    grind [DecIs]
  · by_cases h2 : k = 2
    · subst h2
      simp only [decide_true, cond_true, Int.reduceEq, decide_false, cond_false] at h
      grind [DecIs]
    · by_cases h3 : k = 3
      · subst h3
        simp only [decide_true, cond_true, Int.reduceEq, decide_false, cond_false] at h
        grind [DecIs]
      · by_cases h4 : k = 4
        · subst h4
          simp only [decide_true, cond_true, Int.reduceEq, decide_false, cond_false] at h
          grind [DecIs]
        · simp only [decide_eq_false h1, decide_eq_false h2, decide_eq_false h3, decide_eq_false h4, cond_false, Bool.not_false, Bool.true_or, cond_true] at h
          cases h
theorem dec_is {d : Dec} {inn : Bool} (h : wrongDecB d inn = 0) : DecIs d.kind d.name d.params d.cons.length d.case.length d.funs.length inn := decC_is h
end Go.Am

namespace Go.Am
open Go
theorem contains_nil (sub : List UInt8) : Go.Lib.contains [] sub = sub.isEmpty := by
  unfold Go.Lib.contains Go.Lib.index
  cases sub.isEmpty <;> rfl
theorem contains_cons (c : UInt8) (s sub : List UInt8) : Go.Lib.contains (c :: s) sub = (sub.isPrefixOf (c :: s) || Go.Lib.contains s sub) := by
  have h := Go.Lib.index_ge s sub
  unfold Go.Lib.contains
  rw [Go.Lib.index]
  cases sub.isPrefixOf (c :: s) with
  | true => rfl
  | false =>
    simp only [Bool.false_eq_true, if_false, Bool.false_or]
    by_cases h1 : Go.Lib.index s sub = -1
    · rw [h1]; rfl
    · have h2 : (Go.Lib.index s sub == -1) = false := by simpa using h1
      rw [h2]
      simp only [Bool.false_eq_true, if_false]
      congr 1
      rw [eq_iff_iff]
      omega
theorem skip_word : ∀ (w T x : List UInt8), (∀ c ∈ w, c ≠ 32) → Go.Lib.contains (w ++ T) (32 :: x) = Go.Lib.contains T (32 :: x)
  | [], _, _, _ => rfl
  | c :: w, T, x, h => by
    have hc : ((32 : UInt8) == c) = false := by have := h c (by simp); rw [beq_eq_false_iff_ne]; exact fun e => this e.symm
    rw [List.cons_append, contains_cons, List.isPrefixOf, hc, Bool.false_and, Bool.false_or]
    exact skip_word w T x fun d hd => h d (List.mem_cons_of_mem _ hd)
theorem prefix_word : ∀ (l w T : List UInt8), (∀ c ∈ l, c ≠ 32) → (∀ c ∈ w, c ≠ 32) → (l ++ [32]).isPrefixOf (w ++ 32 :: T) = decide (l = w)
  | [], [], T, _, _ => by simp [List.isPrefixOf]
  | [], c :: w, T, _, h => by
    have hc : ((32 : UInt8) == c) = false := by have := h c (by simp); rw [beq_eq_false_iff_ne]; exact fun e => this e.symm
    simp [List.isPrefixOf, hc]
  | a :: l, [], T, h, _ => by
    have hc : (a == (32 : UInt8)) = false := by have := h a (by simp); rw [beq_eq_false_iff_ne]; exact this
    simp [List.isPrefixOf, hc]
  | a :: l, c :: w, T, h, g => by
    have ih := prefix_word l w T (fun d hd => h d (List.mem_cons_of_mem _ hd)) (fun d hd => g d (List.mem_cons_of_mem _ hd))
    rw [List.cons_append, List.cons_append, List.isPrefixOf, ih]
    by_cases hac : a = c
    · subst hac; simp
    · have : (a == c) = false := by rw [beq_eq_false_iff_ne]; exact hac
      simp [this, hac]
theorem word_in (l : Str) (hl : ∀ c ∈ l, c ≠ 32) : ∀ ws : List Str, (∀ w ∈ ws, ∀ c ∈ w, c ≠ 32) → Go.Lib.contains (32 :: (ws.flatMap fun w => w ++ [32])) (32 :: (l ++ [32])) = ws.any fun w => decide (l = w)
  | [], _ => by
    rw [List.flatMap_nil, contains_cons, contains_nil]
    cases l <;> simp [List.isPrefixOf]
  | w :: ws, h => by
    have hw := h w (by simp)
    have e : (w :: ws).flatMap (fun w => w ++ [32]) = w ++ 32 :: (ws.flatMap fun w => w ++ [32]) := by simp
    rw [e, contains_cons, List.isPrefixOf, beq_self_eq_true, Bool.true_and, prefix_word l w _ hl hw, skip_word w _ _ hw, word_in l hl ws fun v hv => h v (List.mem_cons_of_mem _ hv), List.any_cons]
def wordsAll : List Str := wordsR ++ [[116, 114, 117, 101], [102, 97, 108, 115, 101], [95]]
theorem words_eq : wordsS = 32 :: (wordsAll.flatMap fun w => w ++ [32]) := by decide +kernel
theorem words_plain : ∀ w ∈ wordsAll, ∀ c ∈ w, c ≠ 32 := by decide +kernel
theorem rest_eq (n : Int) : restR n = !unrestB n := by
  simp only [restR, unrestB, smallB, greatB]
  by_cases h1 : n ≥ 97 <;> by_cases h2 : n ≤ 122 <;> by_cases h3 : n = 95 <;> by_cases h4 : n ≥ 65 <;> by_cases h5 : n ≤ 90 <;> by_cases h6 : n < 48 <;> by_cases h7 : n > 57 <;> by_cases h8 : n = 39 <;> simp [h1, h2, h3, h4, h5, h6, h7, h8] <;> omega
theorem shaped_eq (l : Str) (cap : Bool) : shapedR l cap = (!decide (l = []) && letterR (headB l) cap && runB l) := by
  have e : ((l.drop 1).all fun c => restR c.toNat) = restAll (l.drop 1) := by
    unfold restAll
    congr 1
    funext c
    exact rest_eq _
  unfold shapedR runB
  rw [e]
  have e1 : decide ((l.length : Int) < 1) = decide (l = []) := by cases l <;> simp; omega
  have e2 : decide ((l.length : Int) > 32) = !decide (l.length ≤ 32) := by
    by_cases h : l.length ≤ 32
    · rw [decide_eq_true h, decide_eq_false (by omega)]; rfl
    · rw [decide_eq_false h, decide_eq_true (by omega)]; rfl
  rw [e1, e2]
  cases decide (l = []) <;> cases decide (l.length ≤ 32) <;> cases letterR (headB l) cap <;> cases restAll (l.drop 1) <;> rfl
theorem cap_eq (l : Str) : capR l = capB l := shaped_eq l true
theorem con_eq (l : Str) : conR l = conB l := by unfold conR conB; rw [cap_eq]
theorem no_blank (l : Str) (h : shapedR l false = true) : ∀ c ∈ l, c ≠ 32 := by
  rw [shaped_eq] at h
  simp only [Bool.and_eq_true] at h
  obtain ⟨⟨h0, h1⟩, h2⟩ := h
  cases l with
  | nil => intro c hc; cases hc
  | cons a l =>
    intro c hc e
    subst e
    rcases List.mem_cons.1 hc with rfl | hc
    · change letterR 32 false = true at h1
      revert h1; decide
    · simp only [runB, Bool.and_eq_true, restAll, List.drop_one, List.tail_cons, List.all_eq_true] at h2
      have := h2.1 32 hc
      revert this; decide
theorem low_eq (l : Str) : lowR l = lowB l := by
  unfold lowR
  have e : lowB l = (shapedR l false && !Go.Lib.contains wordsS (32 :: (l ++ [32]))) := by rw [shaped_eq]; rfl
  rw [e]
  cases hs : shapedR l false with
  | false => rfl
  | true =>
    rw [words_eq, word_in l (no_blank l hs) wordsAll words_plain]
    unfold wordsAll amongR
    rw [List.any_append]
    have e3 : (wordsR.any fun w => decide (w = l)) = wordsR.any fun w => decide (l = w) := by congr 1; funext w; congr 1; rw [eq_iff_iff]; exact eq_comm
    rw [e3]
    simp only [List.any_cons, List.any_nil]
    cases (wordsR.any fun w => decide (l = w)) <;> cases decide (l = [95]) <;> cases decide (l = [116, 114, 117, 101]) <;> cases decide (l = [102, 97, 108, 115, 101]) <;> rfl
theorem low_int : lowB [105, 110, 116] = true := by decide +kernel
theorem low_bool : lowB [98, 111, 111, 108] = true := by decide +kernel
theorem low_unit : lowB [117, 110, 105, 116] = true := by decide +kernel
theorem low_exn : lowB [101, 120, 110] = true := by decide +kernel
end Go.Am

namespace Go.Proofs.YtinphnakebeloaaGreat
open Go Go.Am
set_option linter.unusedVariables false
set_option maxRecDepth 4000
theorem ref05_isInt_spec (n : Int) (s : St) (h : -9223372036854775808 ≤ n) (h' : n ≤ 9223372036854775807) : cw (.f F_ref05_isInt) [.int .i64 n] s = some (.ret (.val (.bool (isIntB n))), s) := by
  rw [ref05_isInt_eq]
  have h1 : -2147483648 < n.tmod 2147483648 := Int.lt_tmod_of_pos n (by decide)
  have h2 : n.tmod 2147483648 < 2147483648 := Int.tmod_lt_of_pos n (by decide)
  have h3 : n = 2147483648 * n.tdiv 2147483648 + n.tmod 2147483648 := (Int.mul_tdiv_add_tmod n 2147483648).symm
  have h4 : 0 ≤ n → 0 ≤ n.tmod 2147483648 := fun h => Int.tmod_nonneg _ h
  have h5 : n ≤ 0 → n.tmod 2147483648 ≤ 0 := fun h => by have := Int.tmod_nonneg (2147483648) (show 0 ≤ -n by omega); rw [Int.neg_tmod] at this; omega
  simp only [go_sem, ref01_Wrap_spec]
  generalize n.tmod 2147483648 = m at *
  generalize n.tdiv 2147483648 = d at *
  refine congrArg (fun b => some (Out.ret (Slot.val (AV.bool b)), s)) ?_
  rw [Bool.eq_iff_iff]
  simp only [isIntB, Bool.and_eq_true, decide_eq_true_eq, Bool.cond_decide]
  split <;> split <;> omega
theorem ref05_exp_spec (e : Exp) (s : St) (hn : e.name.length < 2^62) (hl : e.kids.length < 2^40) (h : -9223372036854775808 ≤ e.n) (h' : e.n ≤ 9223372036854775807) : cw (.f F_ref05_exp) [e.enc] s = some (.ret (.val (.int .i64 (wrongExpB e))), s) := by
  obtain ⟨k, a, nm, n, l, lb, c, cb, d, db⟩ := e
  rw [ref05_exp_eq]
  have hl' : l.length < 2^40 := hl
  have hi := fun s => ref05_isInt_spec n s h h'
  have hk : k = 1 ∨ k = 2 ∨ k = 3 ∨ k = 4 ∨ k = 5 ∨ k = 6 ∨ k = 7 ∨ k = 8 ∨ k = 9 ∨ k = 10 ∨ k = 11 ∨ k = 12 ∨ k = 13 ∨ k = 14 ∨ k = 15 ∨ k = 16 ∨ k = 17 ∨ k = 18 ∨ k = 19 ∨ k = 20 ∨ (k < 1 ∨ k > 20) := by omega
  rcases hk with rfl | rfl | rfl | rfl | rfl | rfl | rfl | rfl | rfl | rfl | rfl | rfl | rfl | rfl | rfl | rfl | rfl | rfl | rfl | rfl | hk
  rotate_left 20
  · have h : (decide (k < 1) || decide (k > 20)) = true := by simpa using hk
    have e : wrongExpB (Exp.mk k a nm n l lb c cb d db) = 29 := by
      show (bif (decide (k < 1) || decide (k > 20) || _ || _ || _ || _ || _) then (29 : Int) else _) = 29
      rw [h]; rfl
    simp only [go_sem, Nat.reduceAdd, Nat.reduceLeDiff, h, e]
  all_goals
    simp only [go_sem, Int.reduceEq, Int.reduceGT, Int.reduceLT, Nat.reduceAdd, Nat.reduceLeDiff, ref05_kids_eq, ref05_kids_j0_eq, ref05_kids_j1_eq, ref05_Low_spec nm _ hn, ref05_Con_spec nm _ hn, hi, ref05_is_spec, wrongExpB, expLM, Exp.kind, Exp.name, Exp.n, Exp.kids, Exp.cases, Exp.decs, low_eq, con_eq, isR]
    try rfl
  all_goals grind
theorem ref05_pat_spec (t : Pat) (s : St) (hn : t.name.length < 2^62) (h : -9223372036854775808 ≤ t.n) (h' : t.n ≤ 9223372036854775807) : cw (.f F_ref05_pat) [t.enc] s = some (.ret (.val (.int .i64 (wrongPatB t))), s) := by
  obtain ⟨k, a, nm, n, l, nl⟩ := t
  rw [ref05_pat_eq]
  have hi := fun s => ref05_isInt_spec n s h h'
  have hk : k = 1 ∨ k = 2 ∨ k = 3 ∨ k = 4 ∨ k = 5 ∨ k = 6 ∨ (k < 1 ∨ k > 6) := by omega
  rcases hk with rfl | rfl | rfl | rfl | rfl | rfl | hk
  rotate_left 6
  · have h : (decide (k < 1) || decide (k > 6)) = true := by simpa using hk
    have e : wrongPatB (Pat.mk k a nm n l nl) = 29 := by
      show (bif (decide (k < 1) || decide (k > 6)) then (29 : Int) else _) = 29
      rw [h]; rfl
    simp only [go_sem, Nat.reduceAdd, Nat.reduceLeDiff, h, e]
  all_goals
    simp only [go_sem, Int.reduceEq, Int.reduceGT, Int.reduceLT, Nat.reduceAdd, Nat.reduceLeDiff, ref05_Low_spec nm _ hn, ref05_Con_spec nm _ hn, hi, ref05_is_spec, wrongPatB, patLM, Pat.kind, Pat.name, Pat.n, Pat.kids, low_eq, con_eq, isR]
    try rfl
  all_goals grind
def argsR (nm : Str) : Int × Int :=
  bif decide (nm = [105, 110, 116]) || decide (nm = [98, 111, 111, 108]) || decide (nm = [117, 110, 105, 116]) || decide (nm = [101, 120, 110]) then (0, 0) else bif decide (nm = [114, 101, 102]) then (1, 1) else bif decide (nm = [45, 62]) then (2, 2) else bif decide (nm = [42]) then (2, 8) else (0, 8)
theorem ref05_Args_spec (nm : Str) (s : St) : cw (.f F_ref05_Args) [.str nm] s = some (.ret (.val (.tup [.int .i64 (argsR nm).1, .int .i64 (argsR nm).2])), s) := by
  rw [ref05_Args_eq]
  simp only [go_sem, ref05_Args_j0_eq]
  delta argsR
  generalize decide (nm = [105, 110, 116]) = x1
  generalize decide (nm = [98, 111, 111, 108]) = x2
  generalize decide (nm = [117, 110, 105, 116]) = x3
  generalize decide (nm = [101, 120, 110]) = x4
  generalize decide (nm = [114, 101, 102]) = x5
  generalize decide (nm = [45, 62]) = x6
  generalize decide (nm = [42]) = x7
  cases x1 <;> cases x2 <;> cases x3 <;> cases x4 <;> cases x5 <;> cases x6 <;> cases x7 <;> rfl
theorem ref05_zeroTy_spec (t : Ty) (s : St) : cw (.f F_ref05_zeroTy) [t.enc] s = some (.ret (.val (.bool (decide (t.kind = 0) && decide (t.n = 0) && decide (t.name = []) && decide ((t.args.length : Int) = 0)))), s) := by
  rw [ref05_zeroTy_eq]
  simp only [go_sem, Nat.reduceAdd, Nat.reduceLeDiff, Ty.cells_eq]
theorem ref05_ty_spec (t : Ty) (s : St) (hn : t.name.length < 2^62) : cw (.f F_ref05_ty) [t.enc] s = some (.ret (.val (.int .i64 (wrongTyB t))), s) := by
  obtain ⟨k, n, nm, l, nl⟩ := t
  rw [ref05_ty_eq]
  simp only [go_sem, Nat.reduceAdd, Nat.reduceLeDiff, ref05_Args_spec, ref05_Low_spec nm _ hn, ref05_is_spec, low_eq]
  show _ = some (Out.ret (.val (.int .i64 (wrongTyC k n nm l.length))), s)
  by_cases h1 : nm = [105, 110, 116]
  · subst h1; simp (decide := true) only [wrongTyC, tyLM, argsR, isR, low_int]; grind
  by_cases h2 : nm = [98, 111, 111, 108]
  · subst h2; simp (decide := true) only [wrongTyC, tyLM, argsR, isR, low_bool]; grind
  by_cases h3 : nm = [117, 110, 105, 116]
  · subst h3; simp (decide := true) only [wrongTyC, tyLM, argsR, isR, low_unit]; grind
  by_cases h4 : nm = [101, 120, 110]
  · subst h4; simp (decide := true) only [wrongTyC, tyLM, argsR, isR, low_exn]; grind
  simp only [wrongTyC, tyLM, argsR, isR, h1, h2, h3, h4]
  grind
theorem ref05_dec_spec (d : Dec) (inn : Bool) (s : St) (hn : d.name.length < 2^62) : cw (.f F_ref05_dec) [d.enc, .bool inn] s = some (.ret (.val (.int .i64 (wrongDecB d inn))), s) := by
  obtain ⟨k, a, nm, p, l, nb, c, cb, f, fb⟩ := d
  rw [ref05_dec_eq]
  simp only [go_sem, Nat.reduceAdd, Nat.reduceLeDiff, ref05_Low_spec nm _ hn, ref05_is_spec, low_eq, isR]
  show _ = some (Out.ret (.val (.int .i64 (wrongDecC k nm p l.length c.length f.length inn))), s)
  have hk : k = 1 ∨ k = 2 ∨ k = 3 ∨ k = 4 ∨ (k ≠ 1 ∧ k ≠ 2 ∧ k ≠ 3 ∧ k ≠ 4) := by omega
  simp only [wrongDecC]
  rcases hk with rfl | rfl | rfl | rfl | ⟨h1, h2, h3, h4⟩
  all_goals grind
end Go.Proofs.YtinphnakebeloaaGreat

namespace Go.Proofs.YtinphnakebeloaaGreat
open Go Go.Am
set_option linter.unusedVariables false
set_option maxRecDepth 4000
theorem ref05_wrong_spec (nd : TNode) (s : St) (h : nd.ok) : ∃ nm : Str, cw (.f F_ref05_wrong) [nd.enc] s = some (.ret (.val (.tup [.int .i64 nd.wrong.1, .str nm])), s) ∧ (nd.wrong.1 = 8 → nm = nd.wrong.2) := by
  rw [ref05_wrong_eq]
  cases nd with
  | dec inn d =>
    have hn : d.name.length < 2^62 := by simp only [TNode.ok] at h; omega
    have hw := fun s => ref05_dec_spec d inn s hn
    obtain ⟨k, a, nm, p, l, nb, c, cb, f, fb⟩ := d
    simp only [go_sem, Dec.enc] at hw
    simp only [go_sem, Int.reduceEq, Nat.reduceAdd, Nat.reduceLeDiff, Nat.reduceSub, TNode.cells, hw]
    exact ⟨nm, rfl, fun _ => rfl⟩
  | exp e =>
    obtain ⟨h0, h1, h2, h3⟩ := h
    have hw := fun s => ref05_exp_spec e s (by omega) h1 h2 h3
    obtain ⟨k, a, nm, n, l, lb, c, cb, d, db⟩ := e
    simp only [go_sem, Exp.enc] at hw
    simp only [go_sem, Int.reduceEq, Nat.reduceAdd, Nat.reduceLeDiff, Nat.reduceSub, TNode.cells, Dec.zero, hw]
    exact ⟨nm, rfl, fun _ => rfl⟩
  | pat e =>
    obtain ⟨h0, h2, h3⟩ := h
    have hw := fun s => ref05_pat_spec e s (by omega) h2 h3
    obtain ⟨k, a, nm, n, l, lb⟩ := e
    simp only [go_sem, Pat.enc] at hw
    simp only [go_sem, Int.reduceEq, Nat.reduceAdd, Nat.reduceLeDiff, Nat.reduceSub, TNode.cells, Dec.zero, Exp.zero, hw]
    exact ⟨nm, rfl, fun _ => rfl⟩
  | ty e a =>
    have hn : e.name.length < 2^62 := by simp only [TNode.ok] at h; omega
    have hw := fun s => ref05_ty_spec e s hn
    obtain ⟨k, n, nm, l, lb⟩ := e
    simp only [go_sem, Ty.enc] at hw
    simp only [go_sem, Int.reduceEq, Nat.reduceAdd, Nat.reduceLeDiff, Nat.reduceSub, TNode.cells, Dec.zero, Exp.zero, Pat.zero, hw]
    exact ⟨nm, rfl, fun _ => rfl⟩
  | fn f =>
    have hn : f.name.length < 2^62 := by simp only [TNode.ok] at h; omega
    have hw := fun s => ref05_Low_spec f.name s hn
    obtain ⟨nm, a, c⟩ := f
    simp only [Fun.name, low_eq] at hw
    simp only [go_sem, Int.reduceEq, Nat.reduceAdd, Nat.reduceLeDiff, Nat.reduceSub, TNode.cells, Dec.zero, Exp.zero, Pat.zero, Ty.zero, hw]
    cases hl : lowB nm
    · simp only [go_sem]; exact ⟨nm, by simp only [TNode.wrong, Fun.name, hl]; rfl, fun _ => rfl⟩
    · simp only [go_sem]; exact ⟨[], by simp only [TNode.wrong, Fun.name, hl]; rfl, fun h => by simp only [TNode.wrong, Fun.name, hl] at h; cases h⟩
  | con c =>
    have hn : c.name.length < 2^62 := by simp only [TNode.ok] at h; omega
    have hw := fun s => ref05_Capital_spec c.name s hn
    have hz := fun s => ref05_zeroTy_spec c.arg s
    obtain ⟨nm, a, hs, arg⟩ := c
    obtain ⟨tk, tn, tnm, tl, tb⟩ := arg
    simp only [cap_eq] at hw
    simp only [go_sem, Ty.enc] at hz
    simp only [go_sem, Int.reduceEq, Nat.reduceAdd, Nat.reduceLeDiff, TNode.cells, Con.cells, Dec.zero, Exp.zero, Pat.zero, Ty.zero, Fun.zero, Case.zero, hw, hz]
    have hb : (!hs && !(decide (tk = 0) && decide (tn = 0) && decide (tnm = []) && decide ((tl.length : Int) = 0))) = (!hs && (!decide (tk = 0) || !decide (tn = 0) || !decide (tnm = []) || decide ((tl.length : Int) > 0))) := by
      cases hs <;> by_cases h1 : tk = 0 <;> by_cases h2 : tn = 0 <;> by_cases h3 : tnm = [] <;> cases tl <;> simp [h1, h2, h3] <;> omega
    have key : ∀ b1 b2 : Bool, ∃ nm' : Str, some (Out.ret (Slot.val (bif b1 then AV.tup [.int .i64 29, .str []] else bif !b2 then AV.tup [.int .i64 8, .str nm] else AV.tup [.int .i64 0, .str []])), s) = some (Out.ret (Slot.val (.tup [.int .i64 (bif b1 then 29 else bif !b2 then 8 else 0), .str nm'])), s) ∧ ((bif b1 then (29 : Int) else bif !b2 then 8 else 0) = 8 → nm' = nm) := by
      intro b1 b2
      cases b1 <;> cases b2
      · exact ⟨nm, rfl, fun _ => rfl⟩
      · exact ⟨[], rfl, fun h => by cases h⟩
      · exact ⟨[], rfl, fun h => by cases h⟩
      · exact ⟨[], rfl, fun h => by cases h⟩
    obtain ⟨nm', e1, e2⟩ := key (!hs && !(decide (tk = 0) && decide (tn = 0) && decide (tnm = []) && decide ((tl.length : Int) = 0))) (capB nm)
    have hw2 : (TNode.con ⟨nm, a, hs, .mk tk tn tnm tl tb⟩).wrong = (bif (!hs && !(decide (tk = 0) && decide (tn = 0) && decide (tnm = []) && decide ((tl.length : Int) = 0))) then 29 else bif !capB nm then 8 else 0, nm) := by
      rw [hb]; rfl
    rw [hw2]
    exact ⟨nm', e1, e2⟩
end Go.Proofs.YtinphnakebeloaaGreat

namespace Go.Proofs.YtinphnakebeloaaGreat
open Go Go.Am
set_option linter.unusedVariables false
set_option maxRecDepth 4000
theorem ref05_deepTy_loop (t : Ty) (hl : t.args.length < 2^40) : ∀ (suf pre : List Ty) (n : Int) (s : St) (i : Nat), pre ++ suf = t.args → i = pre.length → (∀ t ∈ suf, ∀ s, cw (.f F_ref05_deepTy) [t.enc] s = some (.ret (.val (.int .i64 (deepTy t))), s)) → 0 ≤ n → n < 2^40 → Ty.sizes suf < 2^40 →
    ref05_deepTy_l0 (t.cells.map .val) (.val (.int .i64 n)) (.val (.int .i64 i)) s = some (.ret (.val (.int .i64 (deepTys suf n + 1))), s)
  | [], pre, n, s, i, h, hi, H, h0, h1, h2 => by
    subst hi
    rw [ref05_deepTy_l0_eq]; simp only [go_sem, Nat.reduceAdd, Nat.reduceLeDiff, Ty.cells_eq, end_facts (by simpa using h)]
    rw [wrap64 (by omega) (by omega)]; rfl
  | u :: suf, pre, n, s, i, h, hi, H, h0, h1, h2 => by
    subst hi
    obtain ⟨f1, f2, f3⟩ := step_facts (x := .val (encS t.nl (t.args.map Ty.enc))) (list?_encS _ _) h (by omega) (Ty.cells_len u) (by decide)
    have ht := deepTy_le u
    have hm := maxI_le n (deepTy u) (2^40 - 1)
    have hn := le_maxI n (deepTy u)
    simp only [Ty.sizes] at h2
    have := ref05_deepTy_loop t hl suf (pre ++ [u]) (maxI n (deepTy u)) s (pre.length + 1) (by simpa using h) (by simp) (fun w hw => H w (List.mem_cons_of_mem _ hw)) (by omega) (by omega) (by omega)
    rw [ref05_deepTy_l0_eq]; rw [Ty.cells_eq] at this ⊢; simp only [go_sem, Nat.reduceAdd, Nat.reduceLeDiff, f1, f2, f3, H u (List.mem_cons_self)] at this ⊢
    exact this
theorem ref05_deepTy_spec : ∀ (m : Nat) (t : Ty) (s : St), t.size ≤ m → t.size < 2^40 → cw (.f F_ref05_deepTy) [t.enc] s = some (.ret (.val (.int .i64 (deepTy t))), s)
  | 0, .mk _ _ _ _ _, _, h, _ => by simp only [Ty.size] at h; omega
  | m + 1, .mk k n nm l nl, s, h, h' => by
    simp only [Ty.size] at h h'
    have hl := Ty.len_sizes l
    have := ref05_deepTy_loop (.mk k n nm l nl) (by simp only [Ty.args]; omega) l [] 0 s 0 rfl rfl (fun u hu s => by have := Ty.mem_sizes hu; exact ref05_deepTy_spec m u s (by omega) (by omega)) (by decide) (by decide) (by omega)
    rw [ref05_deepTy_eq]; simp only [go_sem, Nat.reduceAdd, Ty.enc] at this ⊢
    exact this
theorem ref05_deepPat_loop (t : Pat) (hl : t.kids.length < 2^40) : ∀ (suf pre : List Pat) (n : Int) (s : St) (i : Nat), pre ++ suf = t.kids → i = pre.length → (∀ t ∈ suf, ∀ s, cw (.f F_ref05_deepPat) [t.enc] s = some (.ret (.val (.int .i64 (deepPat t))), s)) → 0 ≤ n → n < 2^40 → Pat.sizes suf < 2^40 →
    ref05_deepPat_l0 (t.cells.map .val) (.val (.int .i64 n)) (.val (.int .i64 i)) s = some (.ret (.val (.int .i64 (deepPats suf n + 1))), s)
  | [], pre, n, s, i, h, hi, H, h0, h1, h2 => by
    subst hi
    rw [ref05_deepPat_l0_eq]; simp only [go_sem, Nat.reduceAdd, Nat.reduceLeDiff, Pat.cells_eq, end_facts (by simpa using h)]
    rw [wrap64 (by omega) (by omega)]; rfl
  | u :: suf, pre, n, s, i, h, hi, H, h0, h1, h2 => by
    subst hi
    obtain ⟨f1, f2, f3⟩ := step_facts (x := .val (encS t.kb (t.kids.map Pat.enc))) (list?_encS _ _) h (by omega) (Pat.cells_len u) (by decide)
    have ht := deepPat_le u
    have hm := maxI_le n (deepPat u) (2^40 - 1)
    have hn := le_maxI n (deepPat u)
    simp only [Pat.sizes] at h2
    have := ref05_deepPat_loop t hl suf (pre ++ [u]) (maxI n (deepPat u)) s (pre.length + 1) (by simpa using h) (by simp) (fun w hw => H w (List.mem_cons_of_mem _ hw)) (by omega) (by omega) (by omega)
    rw [ref05_deepPat_l0_eq]; rw [Pat.cells_eq] at this ⊢; simp only [go_sem, Nat.reduceAdd, Nat.reduceLeDiff, f1, f2, f3, H u (List.mem_cons_self)] at this ⊢
    exact this
theorem ref05_deepPat_spec : ∀ (m : Nat) (t : Pat) (s : St), t.size ≤ m → t.size < 2^40 → cw (.f F_ref05_deepPat) [t.enc] s = some (.ret (.val (.int .i64 (deepPat t))), s)
  | 0, .mk _ _ _ _ _ _, _, h, _ => by simp only [Pat.size] at h; omega
  | m + 1, .mk k a nm n l nl, s, h, h' => by
    simp only [Pat.size] at h h'
    have hl := Pat.len_sizes l
    have := ref05_deepPat_loop (.mk k a nm n l nl) (by simp only [Pat.kids]; omega) l [] 0 s 0 rfl rfl (fun u hu s => by have := Pat.mem_sizes hu; exact ref05_deepPat_spec m u s (by omega) (by omega)) (by decide) (by decide) (by omega)
    rw [ref05_deepPat_eq]; simp only [go_sem, Nat.reduceAdd, Pat.enc] at this ⊢
    exact this
def rdeepExpOK (t : Exp) : Prop := ∀ s, cw (.f F_ref05_DeepExp) [t.enc] s = some (.ret (.val (.int .i64 (deepExp t))), s)
def rdeepDecsOK (l : List Dec) : Prop := ∀ (v : AV) (s : St), (Slot.val v).list? = some (l.map Dec.enc) → cw (.f F_ref05_Deep) [v] s = some (.ret (.val (.int .i64 (deepDecs l 0))), s)
theorem ref05_DeepExp_l1_loop (t : Exp) (hl : t.cases.length < 2^40) : ∀ (suf pre : List Case) (n : Int) (s : St) (i : Nat), pre ++ suf = t.cases → i = pre.length → (∀ c ∈ suf, rdeepExpOK c.exp) → 0 ≤ n → n < 2^40 → Case.sizes suf < 2^40 →
    ref05_DeepExp_l1 (t.cells.map .val) (.val (.int .i64 n)) (.val (.int .i64 i)) s = some (.ret (.val (.int .i64 (deepCases suf n + 1))), s)
  | [], pre, n, s, i, h, hi, H, h0, h1, h2 => by
    subst hi
    rw [ref05_DeepExp_l1_eq]; simp only [go_sem, Exp.cells_eq, end_facts (by simpa using h)]
    rw [wrap64 (by omega) (by omega)]; rfl
  | .mk p e :: suf, pre, n, s, i, h, hi, H, h0, h1, h2 => by
    subst hi
    obtain ⟨f1, f2, f3⟩ := step_facts (x := .val (encS t.cb (t.cases.map Case.enc))) (list?_encS _ _) h (by omega) (Case.cells_len (.mk p e)) (by decide)
    have ht := deepExp_le e
    have hp := deepPat_le p
    simp only [Case.sizes, Case.size] at h2
    have h4 := le_maxI n (deepPat p)
    have h5 := le_maxI (maxI n (deepPat p)) (deepExp e)
    have h6 := maxI_le n (deepPat p) (2^40 - 1) (by omega) (by omega)
    have h7 := maxI_le (maxI n (deepPat p)) (deepExp e) (2^40 - 1) (by omega) (by omega)
    have He : rdeepExpOK e := H (.mk p e) (List.mem_cons_self)
    have := ref05_DeepExp_l1_loop t hl suf (pre ++ [.mk p e]) (maxI (maxI n (deepPat p)) (deepExp e)) s (pre.length + 1) (by simpa using h) (by simp) (fun w hw => H w (List.mem_cons_of_mem _ hw)) (by omega) (by omega) (by omega)
    rw [ref05_DeepExp_l1_eq]; rw [Exp.cells_eq] at this ⊢; simp only [go_sem, Nat.reduceLeDiff, Nat.reduceSub, f1, f2, f3, ref05_deepPat_spec _ p _ (Nat.le_refl _) (show p.size < 2^40 by omega), He s] at this ⊢
    exact this
theorem ref05_DeepExp_l0_loop (t : Exp) (hl : t.kids.length < 2^40) (hl2 : t.cases.length < 2^40) (hc : Case.sizes t.cases < 2^40) (Hc : ∀ c ∈ t.cases, rdeepExpOK c.exp) : ∀ (suf pre : List Exp) (n : Int) (s : St) (i : Nat), pre ++ suf = t.kids → i = pre.length → (∀ c ∈ suf, rdeepExpOK c) → 0 ≤ n → n < 2^40 → Exp.sizes suf < 2^40 →
    ref05_DeepExp_l0 (t.cells.map .val) (.val (.int .i64 n)) (.val (.int .i64 i)) s = some (.ret (.val (.int .i64 (deepCases t.cases (deepExps suf n) + 1))), s)
  | [], pre, n, s, i, h, hi, H, h0, h1, h2 => by
    subst hi
    have := ref05_DeepExp_l1_loop t hl2 t.cases [] n s 0 rfl rfl Hc h0 h1 hc
    rw [ref05_DeepExp_l0_eq]; rw [Exp.cells_eq] at this ⊢; simp only [go_sem, end_facts (by simpa using h)] at this ⊢
    exact this
  | e :: suf, pre, n, s, i, h, hi, H, h0, h1, h2 => by
    subst hi
    obtain ⟨f1, f2, f3⟩ := step_facts (x := .val (encS t.kb (t.kids.map Exp.enc))) (list?_encS _ _) h (by omega) (Exp.cells_len e) (by decide)
    have ht := deepExp_le e
    simp only [Exp.sizes] at h2
    have h4 := le_maxI n (deepExp e)
    have h6 := maxI_le n (deepExp e) (2^40 - 1) (by omega) (by omega)
    have He : rdeepExpOK e := H e (List.mem_cons_self)
    have := ref05_DeepExp_l0_loop t hl hl2 hc Hc suf (pre ++ [e]) (maxI n (deepExp e)) s (pre.length + 1) (by simpa using h) (by simp) (fun w hw => H w (List.mem_cons_of_mem _ hw)) (by omega) (by omega) (by omega)
    rw [ref05_DeepExp_l0_eq]; rw [Exp.cells_eq] at this ⊢; simp only [go_sem, Nat.reduceLeDiff, f1, f2, f3, He s] at this ⊢
    exact this
theorem ref05_Deep_l3_loop (d : Dec) (x0 : Slot) (j : Nat) (fx : ixS 7 x0 (.val (.int .i64 (j : Int))) = some (.val (.cp d.cells))) (n0 : Int) (hj : j < 2^40) (hl : d.cons.length < 2^40) : ∀ (suf pre : List Con) (n : Int) (s : St) (i : Nat), pre ++ suf = d.cons → i = pre.length → 0 ≤ n → n < 2^40 → Con.sizes suf < 2^40 →
    ref05_Deep_l3 x0 (.val (.int .i64 n0)) (.val (.int .i64 j)) (.val (.int .i64 n)) (.val (.int .i64 i)) s = ref05_Deep_l0 x0 (.val (.int .i64 (maxI n0 (deepCons suf n + 1)))) (.val (.int .i64 (j + 1 : Nat))) s
  | [], pre, n, s, i, h, hi, h0, h1, h2 => by
    subst hi
    rw [ref05_Deep_l3_eq]; simp only [go_sem, fx, Dec.cells_eq, end_facts (by simpa using h)]
    rw [wrap64 (n := n + 1) (by omega) (by omega), wrap64 (by omega) (by omega)]; rfl
  | c :: suf, pre, n, s, i, h, hi, h0, h1, h2 => by
    subst hi
    obtain ⟨f1, f2, f3⟩ := step_facts (x := .val (encS d.nb (d.cons.map Con.enc))) (list?_encS _ _) h (by omega) (Con.cells_len c) (by decide)
    have ht := deepTy_le c.arg
    simp only [Con.sizes, Con.size] at h2
    have hm := maxI_le n (deepTy c.arg) (2^40 - 1)
    have hn := le_maxI n (deepTy c.arg)
    obtain ⟨nm, a, hs, arg⟩ := c
    dsimp only at ht hm hn h2
    rw [ref05_Deep_l3_eq]; simp only [go_sem, Nat.reduceLeDiff, fx, Dec.cells_eq, f1, f2, f3, Con.cells]
    cases hs with
    | false =>
      simp only [go_sem]
      exact ref05_Deep_l3_loop d x0 j fx n0 hj hl suf (pre ++ [_]) n s _ (by simpa using h) (by simp) (by omega) (by omega) (by omega)
    | true =>
      simp only [go_sem, ref05_deepTy_spec _ arg _ (Nat.le_refl _) (show arg.size < 2^40 by omega)]
      exact ref05_Deep_l3_loop d x0 j fx n0 hj hl suf (pre ++ [_]) _ s _ (by simpa using h) (by simp) (by omega) (by omega) (by omega)
theorem ref05_Deep_l2_loop (d : Dec) (x0 : Slot) (j : Nat) (fx : ixS 7 x0 (.val (.int .i64 (j : Int))) = some (.val (.cp d.cells))) (n0 : Int) (hj : j < 2^40) (hl : d.funs.length < 2^40) (hl3 : d.cons.length < 2^40) (hc : Con.sizes d.cons < 2^40) : ∀ (suf pre : List Fun) (n : Int) (s : St) (i : Nat), pre ++ suf = d.funs → i = pre.length → (∀ f ∈ suf, rdeepExpOK f.case.exp) → 0 ≤ n → n < 2^40 → Fun.sizes suf < 2^40 →
    ref05_Deep_l2 x0 (.val (.int .i64 n0)) (.val (.int .i64 j)) (.val (.int .i64 n)) (.val (.int .i64 i)) s = ref05_Deep_l0 x0 (.val (.int .i64 (maxI n0 (deepCons d.cons (deepFuns suf n) + 1)))) (.val (.int .i64 (j + 1 : Nat))) s
  | [], pre, n, s, i, h, hi, H, h0, h1, h2 => by
    subst hi
    have := ref05_Deep_l3_loop d x0 j fx n0 hj hl3 d.cons [] n s 0 rfl rfl h0 h1 hc
    rw [ref05_Deep_l2_eq]; simp only [go_sem, Nat.reduceAdd, Nat.reduceLeDiff, fx, Dec.cells_eq, end_facts (by simpa using h)]
    exact this
  | .mk nm a (.mk p e) :: suf, pre, n, s, i, h, hi, H, h0, h1, h2 => by
    subst hi
    obtain ⟨f1, f2, f3⟩ := step_facts (x := .val (encS d.fb (d.funs.map Fun.enc))) (list?_encS _ _) h (by omega) (Fun.cells_len (.mk nm a (.mk p e))) (by decide)
    have ht := deepExp_le e
    have hp := deepPat_le p
    simp only [Fun.sizes, Fun.size, Case.size] at h2
    have h4 := le_maxI n (deepPat p)
    have h5 := le_maxI (maxI n (deepPat p)) (deepExp e)
    have h6 := maxI_le n (deepPat p) (2^40 - 1) (by omega) (by omega)
    have h7 := maxI_le (maxI n (deepPat p)) (deepExp e) (2^40 - 1) (by omega) (by omega)
    have ha := deepCase_alt (.mk p e) n h0
    simp only [Case.pat, Case.exp] at ha
    have He : rdeepExpOK e := H (.mk nm a (.mk p e)) (List.mem_cons_self)
    have := ref05_Deep_l2_loop d x0 j fx n0 hj hl hl3 hc suf (pre ++ [_]) (maxI (maxI n (deepPat p)) (deepExp e)) s (pre.length + 1) (by simpa using h) (by simp) (fun w hw => H w (List.mem_cons_of_mem _ hw)) (by omega) (by omega) (by omega)
    rw [ref05_Deep_l2_eq]; simp only [go_sem, Nat.reduceAdd, Nat.reduceLeDiff, Nat.reduceSub, fx, Dec.cells_eq, f1, f2, f3, ref05_deepPat_spec _ p _ (Nat.le_refl _) (show p.size < 2^40 by omega), He s]
    simp only [deepFuns]
    rw [← ha]
    exact this
theorem ref05_Deep_l1_loop (d : Dec) (x0 : Slot) (j : Nat) (fx : ixS 7 x0 (.val (.int .i64 (j : Int))) = some (.val (.cp d.cells))) (n0 : Int) (hj : j < 2^40) (hl : d.case.length < 2^40) (hl2 : d.funs.length < 2^40) (hl3 : d.cons.length < 2^40) (hc : Con.sizes d.cons < 2^40) (hf : Fun.sizes d.funs < 2^40) (HF : ∀ f ∈ d.funs, rdeepExpOK f.case.exp) : ∀ (suf pre : List Case) (n : Int) (s : St) (i : Nat), pre ++ suf = d.case → i = pre.length → (∀ f ∈ suf, rdeepExpOK f.exp) → 0 ≤ n → n < 2^40 → Case.sizes suf < 2^40 →
    ref05_Deep_l1 x0 (.val (.int .i64 n0)) (.val (.int .i64 j)) (.val (.int .i64 n)) (.val (.int .i64 i)) s = ref05_Deep_l0 x0 (.val (.int .i64 (maxI n0 (deepCons d.cons (deepFuns d.funs (deepCases suf n)) + 1)))) (.val (.int .i64 (j + 1 : Nat))) s
  | [], pre, n, s, i, h, hi, H, h0, h1, h2 => by
    subst hi
    have := ref05_Deep_l2_loop d x0 j fx n0 hj hl2 hl3 hc d.funs [] n s 0 rfl rfl HF h0 h1 hf
    rw [ref05_Deep_l1_eq]; simp only [go_sem, fx, Dec.cells_eq, end_facts (by simpa using h)]
    exact this
  | .mk p e :: suf, pre, n, s, i, h, hi, H, h0, h1, h2 => by
    subst hi
    obtain ⟨f1, f2, f3⟩ := step_facts (x := .val (encS d.cb (d.case.map Case.enc))) (list?_encS _ _) h (by omega) (Case.cells_len (.mk p e)) (by decide)
    have ht := deepExp_le e
    have hp := deepPat_le p
    simp only [Case.sizes, Case.size] at h2
    have h4 := le_maxI n (deepPat p)
    have h5 := le_maxI (maxI n (deepPat p)) (deepExp e)
    have h6 := maxI_le n (deepPat p) (2^40 - 1) (by omega) (by omega)
    have h7 := maxI_le (maxI n (deepPat p)) (deepExp e) (2^40 - 1) (by omega) (by omega)
    have He : rdeepExpOK e := H (.mk p e) (List.mem_cons_self)
    have := ref05_Deep_l1_loop d x0 j fx n0 hj hl hl2 hl3 hc hf HF suf (pre ++ [_]) (maxI (maxI n (deepPat p)) (deepExp e)) s (pre.length + 1) (by simpa using h) (by simp) (fun w hw => H w (List.mem_cons_of_mem _ hw)) (by omega) (by omega) (by omega)
    rw [ref05_Deep_l1_eq]; simp only [go_sem, Nat.reduceLeDiff, Nat.reduceSub, fx, Dec.cells_eq, f1, f2, f3, ref05_deepPat_spec _ p _ (Nat.le_refl _) (show p.size < 2^40 by omega), He s]
    exact this
theorem ref05_Deep_loop (L : List Dec) (x : Slot) (hx : x.list? = some (L.map Dec.enc)) (hl : L.length < 2^40) : ∀ (suf pre : List Dec) (n : Int) (s : St) (i : Nat), pre ++ suf = L → i = pre.length → (∀ d ∈ suf, (∀ c ∈ d.case, rdeepExpOK c.exp) ∧ ∀ f ∈ d.funs, rdeepExpOK f.case.exp) → 0 ≤ n → n < 2^40 → Dec.sizes suf < 2^40 →
    ref05_Deep_l0 x (.val (.int .i64 n)) (.val (.int .i64 i)) s = some (.ret (.val (.int .i64 (deepDecs suf n))), s)
  | [], pre, n, s, i, h, hi, H, h0, h1, h2 => by
    subst hi
    rw [ref05_Deep_l0_eq]; simp only [go_sem, hx, end_facts (by simpa using h)]; rfl
  | .mk k a nm p l nb c cb f fb :: suf, pre, n, s, i, h, hi, H, h0, h1, h2 => by
    subst hi
    obtain ⟨f1, f2, f3⟩ := step_facts hx h (by omega) (Dec.cells_len (.mk k a nm p l nb c cb f fb)) (by decide)
    obtain ⟨hC, hF⟩ := H (.mk k a nm p l nb c cb f fb) (List.mem_cons_self)
    simp only [Dec.sizes, Dec.size] at h2
    have g1 := deepCases_le c 0
    have g2 := deepFuns_le f (deepCases c 0)
    have g3 := deepCons_le l (deepFuns f (deepCases c 0))
    have g5 := le_maxI n (deepCons l (deepFuns f (deepCases c 0)) + 1)
    have g6 := maxI_le n (deepCons l (deepFuns f (deepCases c 0)) + 1) (2^40 - 1) (by omega) (by omega)
    have g7 := Fun.len_sizes f
    have g8 := Case.len_sizes c
    have g9 := Con.len_sizes l
    have hlen : pre.length < L.length := by rw [← h]; simp
    have := ref05_Deep_l1_loop (.mk k a nm p l nb c cb f fb) x pre.length f2 n (by omega) (by simp only [Dec.case]; omega) (by simp only [Dec.funs]; omega) (by simp only [Dec.cons]; omega) (by simp only [Dec.cons]; omega) (by simp only [Dec.funs]; omega) hF c [] 0 s 0 rfl rfl hC (by decide) (by decide) (by omega)
    rw [show ((0 : Nat) : Int) = 0 from rfl] at this
    rw [ref05_Deep_l0_eq]; simp only [go_sem, hx, f1, f2, this]
    exact ref05_Deep_loop L x hx hl suf (pre ++ [_]) _ s _ (by simpa using h) (by simp) (fun u hu => H u (List.mem_cons_of_mem _ hu)) (by simp only [Dec.cons, Dec.funs]; omega) (by simp only [Dec.cons, Dec.funs]; omega) (by omega)
theorem ref05_deep_all : ∀ m : Nat, (∀ e : Exp, e.size ≤ m → e.size < 2^40 → rdeepExpOK e) ∧ (∀ l : List Dec, Dec.sizes l ≤ m → Dec.sizes l < 2^40 → rdeepDecsOK l) := by
  intro m
  induction m with
  | zero =>
    refine ⟨fun e h _ => ?_, fun l h _ v s hv => ?_⟩
    · obtain ⟨k, a, nm, n, l, lb, c, cb, d, db⟩ := e
      simp only [Exp.size] at h; omega
    · cases l with
      | cons c l => obtain ⟨k, a, nm, p, l, nb, c, cb, f, fb⟩ := c; simp only [Dec.sizes, Dec.size] at h; omega
      | nil =>
        rw [ref05_Deep_eq]
        exact ref05_Deep_loop [] _ hv (by decide) [] [] 0 s 0 rfl rfl (by simp) (by decide) (by decide) (by simp only [Dec.sizes]; decide)
  | succ m ih =>
    obtain ⟨ihE, ihD⟩ := ih
    have hcase : ∀ (c : List Case), Case.sizes c ≤ m + 1 → Case.sizes c < 2^40 → ∀ t ∈ c, rdeepExpOK t.exp := fun c h h' t ht => by
      have := Case.mem_sizes ht
      obtain ⟨p, e⟩ := t
      simp only [Case.size] at this
      exact ihE e (by omega) (by omega)
    refine ⟨fun e h h' s => ?_, fun l h h' v s hv => ?_⟩
    · obtain ⟨k, a, nm, n, l, lb, c, cb, d, db⟩ := e
      simp only [Exp.size] at h h'
      have hl := Exp.len_sizes l
      have hl2 := Case.len_sizes c
      have g1 := deepDecs_le d 0
      have hD := fun s => ihD d (by omega) (by omega) (encS db (d.map Dec.enc)) s (by simp only [go_sem])
      have := ref05_DeepExp_l0_loop (.mk k a nm n l lb c cb d db) (by simp only [Exp.kids]; omega) (by simp only [Exp.cases]; omega) (by simp only [Exp.cases]; omega) (hcase c (by omega) (by omega)) l [] (deepDecs d 0) s 0 rfl rfl (fun t ht => ihE t (by have := Exp.mem_sizes ht; omega) (by have := Exp.mem_sizes ht; omega)) (by omega) (by omega) (by omega)
      rw [ref05_DeepExp_eq]; simp only [go_sem, Nat.reduceAdd, Nat.reduceLeDiff, Exp.enc, hD] at this ⊢
      rw [show ((0 : Nat) : Int) = 0 from rfl] at this
      rw [this]
      simp only [Exp.cases, deepExp]
      rw [deepExp_alt]
    · have := Dec.len_sizes l
      rw [ref05_Deep_eq]
      refine ref05_Deep_loop l _ hv (by omega) l [] 0 s 0 rfl rfl (fun t ht => ?_) (by decide) (by decide) h'
      have h1 := Dec.mem_sizes ht
      obtain ⟨k, a, nm, p, l, nb, c, cb, f, fb⟩ := t
      simp only [Dec.size] at h1
      refine ⟨hcase c (by omega) (by omega), fun g hg => ?_⟩
      have h2 := Fun.mem_sizes hg
      obtain ⟨nm, a, ⟨p, e⟩⟩ := g
      simp only [Dec.funs, Fun.size, Case.size] at h2
      exact ihE e (by omega) (by omega)
theorem ref05_Deep_spec (l : List Dec) (nl : Bool) (s : St) (h : Dec.sizes l < 2^40) : cw (.f F_ref05_Deep) [encS nl (l.map Dec.enc)] s = some (.ret (.val (.int .i64 (deepDecs l 0))), s) := (ref05_deep_all (Dec.sizes l)).2 l (Nat.le_refl _) h _ s (by simp only [go_sem])
end Go.Proofs.YtinphnakebeloaaGreat

namespace Go.Proofs.YtinphnakebeloaaGreat
open Go Go.Am
set_option linter.unusedVariables false
set_option maxRecDepth 4000
/-- nodes made anew -/
abbrev Nodes (r : Res) (s : St) (l : List TNode) : Prop := RetA r T_ref05_Node s (l.map TNode.enc)
abbrev NAcc (s0 s : St) (x : Slot) (l : List TNode) : Prop := AccR T_ref05_Node s0 s x (l.map TNode.enc)
theorem nacc {s0 s : St} {x y : Slot} {A B : List TNode} (h : NAcc s0 s x A) (hy : y.list? = some (B.map TNode.enc)) (b : A.length + B.length < 2^30) : ∃ x' s', appendS T_ref05_Node (C.ti T_ref05_Node) s x y = some (x', s') ∧ NAcc s0 s' x' (A ++ B) :=
  AccR.appendF h hy (fun a => by rw [T_ref05_Node_size]; exact TNode.cells_len a) (by rw [T_ref05_Node_size]; decide) b (by rw [T_ref05_Node_bytes]; decide)
theorem ref05_OfTy_loop (a : Int) (t : Ty) (hl : t.args.length < 2^40) (s0 : St) : ∀ (suf pre : List Ty) (A : List TNode) (x : Slot) (s : St) (i : Nat), NAcc s0 s x A → pre ++ suf = t.args → i = pre.length → (∀ t ∈ suf, ∀ s, Nodes (cw (.f F_ref05_OfTy) [t.enc, .int .i64 a] s) s (nodesTy a t)) → A.length + Ty.sizes suf < 2^30 →
    Nodes (ref05_OfTy_l0 (.val (.int .i64 a)) (t.cells.map .val) x (.val (.int .i64 i)) s) s0 (A ++ nodesTys a suf)
  | [], pre, A, x, s, i, hx, h, hi, H, hb => by
    subst hi
    rw [ref05_OfTy_l0_eq]; simp only [go_sem, Nat.reduceAdd, Nat.reduceLeDiff, Ty.cells_eq, end_facts (by simpa using h), nodesTys]
    exact RetA.mk hx
  | u :: suf, pre, A, x, s, i, hx, h, hi, H, hb => by
    subst hi
    obtain ⟨f1, f2, f3⟩ := step_facts (x := .val (encS t.nl (t.args.map Ty.enc))) (list?_encS _ _) h (by omega) (Ty.cells_len u) (by decide)
    obtain ⟨y, s1, e1, g1⟩ := H u (List.mem_cons_self) s
    have hlen := nodesTy_len a u
    simp only [Ty.sizes] at hb
    obtain ⟨x', s2, e2, g2⟩ := nacc (hx.move g1.grew) g1.list? (by omega)
    have := ref05_OfTy_loop a t hl s0 suf (pre ++ [u]) (A ++ nodesTy a u) x' s2 (pre.length + 1) g2 (by simpa using h) (by simp) (fun w hw => H w (List.mem_cons_of_mem _ hw)) (by rw [List.length_append]; omega)
    rw [ref05_OfTy_l0_eq]; rw [Ty.cells_eq] at this ⊢; simp only [go_sem, Nat.reduceAdd, Nat.reduceLeDiff, f1, f2, f3, e1, e2] at this ⊢
    simp only [nodesTys]
    exact this
theorem ref05_OfTy_spec : ∀ (m : Nat) (a : Int) (t : Ty) (s : St), t.size ≤ m → t.size < 2^28 → Nodes (cw (.f F_ref05_OfTy) [t.enc, .int .i64 a] s) s (nodesTy a t)
  | 0, a, .mk _ _ _ _ _, _, h, _ => by simp only [Ty.size] at h; omega
  | m + 1, a, .mk k n nm l nl, s, h, h' => by
    simp only [Ty.size] at h h'
    have hl := Ty.len_sizes l
    have := ref05_OfTy_loop a (.mk k n nm l nl) (by simp only [Ty.args]; omega) s l [] [.ty (.mk k n nm l nl) a] (.full [(TNode.ty (.mk k n nm l nl) a).enc]) s 0 (AccR.full _ _ _) rfl rfl (fun u hu s => by have := Ty.mem_sizes hu; exact ref05_OfTy_spec m a u s (by omega) (by omega)) (by simp only [List.length_singleton]; omega)
    rw [ref05_OfTy_eq]; simp only [go_sem, Nat.reduceAdd, Nat.reduceLeDiff, Ty.enc, TNode.cells, Dec.zero, Exp.zero, Pat.zero, Fun.zero, Case.zero, Con.zero, Ty.zero, Con.cells, TNode.enc, nodesTy] at this ⊢
    exact this
theorem ref05_OfPat_loop (t : Pat) (hl : t.kids.length < 2^40) (s0 : St) : ∀ (suf pre : List Pat) (A : List TNode) (x : Slot) (s : St) (i : Nat), NAcc s0 s x A → pre ++ suf = t.kids → i = pre.length → (∀ t ∈ suf, ∀ s, Nodes (cw (.f F_ref05_OfPat) [t.enc] s) s (nodesPat t)) → A.length + Pat.sizes suf < 2^30 →
    Nodes (ref05_OfPat_l0 (t.cells.map .val) x (.val (.int .i64 i)) s) s0 (A ++ nodesPats suf)
  | [], pre, A, x, s, i, hx, h, hi, H, hb => by
    subst hi
    rw [ref05_OfPat_l0_eq]; simp only [go_sem, Nat.reduceAdd, Nat.reduceLeDiff, Pat.cells_eq, end_facts (by simpa using h), nodesPats]
    exact RetA.mk hx
  | u :: suf, pre, A, x, s, i, hx, h, hi, H, hb => by
    subst hi
    obtain ⟨f1, f2, f3⟩ := step_facts (x := .val (encS t.kb (t.kids.map Pat.enc))) (list?_encS _ _) h (by omega) (Pat.cells_len u) (by decide)
    obtain ⟨y, s1, e1, g1⟩ := H u (List.mem_cons_self) s
    have hlen := nodesPat_len u
    simp only [Pat.sizes] at hb
    obtain ⟨x', s2, e2, g2⟩ := nacc (hx.move g1.grew) g1.list? (by omega)
    have := ref05_OfPat_loop t hl s0 suf (pre ++ [u]) (A ++ nodesPat u) x' s2 (pre.length + 1) g2 (by simpa using h) (by simp) (fun w hw => H w (List.mem_cons_of_mem _ hw)) (by rw [List.length_append]; omega)
    rw [ref05_OfPat_l0_eq]; rw [Pat.cells_eq] at this ⊢; simp only [go_sem, Nat.reduceAdd, Nat.reduceLeDiff, f1, f2, f3, e1, e2] at this ⊢
    simp only [nodesPats]
    exact this
theorem ref05_OfPat_spec : ∀ (m : Nat) (t : Pat) (s : St), t.size ≤ m → t.size < 2^28 → Nodes (cw (.f F_ref05_OfPat) [t.enc] s) s (nodesPat t)
  | 0, .mk _ _ _ _ _ _, _, h, _ => by simp only [Pat.size] at h; omega
  | m + 1, .mk k a nm n l nl, s, h, h' => by
    simp only [Pat.size] at h h'
    have hl := Pat.len_sizes l
    have := ref05_OfPat_loop (.mk k a nm n l nl) (by simp only [Pat.kids]; omega) s l [] [.pat (.mk k a nm n l nl)] (.full [(TNode.pat (.mk k a nm n l nl)).enc]) s 0 (AccR.full _ _ _) rfl rfl (fun u hu s => by have := Pat.mem_sizes hu; exact ref05_OfPat_spec m u s (by omega) (by omega)) (by simp only [List.length_singleton]; omega)
    rw [ref05_OfPat_eq]; simp only [go_sem, Nat.reduceAdd, Nat.reduceLeDiff, Pat.enc, TNode.cells, Dec.zero, Exp.zero, Pat.zero, Fun.zero, Case.zero, Con.zero, Ty.zero, Con.cells, TNode.enc, nodesPat, Pat.at_] at this ⊢
    exact this
def ofExpOK (t : Exp) : Prop := ∀ s, Nodes (cw (.f F_ref05_OfExp) [t.enc] s) s (nodesExp t)
def ofCaseOK (t : Case) : Prop := ∀ s, Nodes (cw (.f F_ref05_OfCase) [t.enc] s) s (nodesCase t)
def ofDecOK (t : Dec) : Prop := ∀ inn s, Nodes (cw (.f F_ref05_OfDec) [t.enc, .bool inn] s) s (nodesDec inn t)
theorem ref05_OfCase_of (p : Pat) (e : Exp) (h : ofExpOK e) (hs : (Case.mk p e).size < 2^28) : ofCaseOK (.mk p e) := fun s => by
  simp only [Case.size] at hs
  obtain ⟨y, s1, e1, g1⟩ := ref05_OfPat_spec _ p s (Nat.le_refl _) (by omega)
  obtain ⟨z, s2, e2, g2⟩ := h s1
  have h1 := nodesPat_len p
  have h2 := nodesExp_len e
  obtain ⟨x', s3, e3, g3⟩ := nacc (g1.move g2.grew) g2.list? (by omega)
  rw [ref05_OfCase_eq]; simp only [go_sem, Nat.reduceAdd, Nat.reduceLeDiff, Nat.reduceSub, e1, e2, e3]
  simp only [nodesCase]
  exact RetA.mk g3
theorem ref05_OfExp_l2_loop (t : Exp) (hl : t.cases.length < 2^40) (s0 : St) : ∀ (suf pre : List Case) (A : List TNode) (x : Slot) (s : St) (i : Nat), NAcc s0 s x A → pre ++ suf = t.cases → i = pre.length → (∀ t ∈ suf, ofCaseOK t) → A.length + Case.sizes suf < 2^30 →
    Nodes (ref05_OfExp_l2 (t.cells.map .val) x (.val (.int .i64 i)) s) s0 (A ++ nodesCases suf)
  | [], pre, A, x, s, i, hx, h, hi, H, hb => by
    subst hi
    rw [ref05_OfExp_l2_eq]; simp only [go_sem, Exp.cells_eq, end_facts (by simpa using h), nodesCases]
    exact RetA.mk hx
  | u :: suf, pre, A, x, s, i, hx, h, hi, H, hb => by
    subst hi
    obtain ⟨f1, f2, f3⟩ := step_facts (x := .val (encS t.cb (t.cases.map Case.enc))) (list?_encS _ _) h (by omega) (Case.cells_len u) (by decide)
    obtain ⟨y, s1, e1, g1⟩ := H u (List.mem_cons_self) s
    have hlen := nodesCase_len u
    simp only [Case.sizes] at hb
    obtain ⟨x', s2, e2, g2⟩ := nacc (hx.move g1.grew) g1.list? (by omega)
    have := ref05_OfExp_l2_loop t hl s0 suf (pre ++ [u]) (A ++ nodesCase u) x' s2 (pre.length + 1) g2 (by simpa using h) (by simp) (fun w hw => H w (List.mem_cons_of_mem _ hw)) (by rw [List.length_append]; omega)
    rw [ref05_OfExp_l2_eq]; rw [Exp.cells_eq] at this ⊢; simp only [go_sem, Nat.reduceLeDiff, f1, f2, f3, e1, e2] at this ⊢
    simp only [nodesCases]
    exact this
theorem ref05_OfExp_l1_loop (t : Exp) (hl : t.kids.length < 2^40) (hl2 : t.cases.length < 2^40) (Hc : ∀ c ∈ t.cases, ofCaseOK c) (s0 : St) : ∀ (suf pre : List Exp) (A : List TNode) (x : Slot) (s : St) (i : Nat), NAcc s0 s x A → pre ++ suf = t.kids → i = pre.length → (∀ t ∈ suf, ofExpOK t) → A.length + Exp.sizes suf + Case.sizes t.cases < 2^30 →
    Nodes (ref05_OfExp_l1 (t.cells.map .val) x (.val (.int .i64 i)) s) s0 (A ++ (nodesExps suf ++ nodesCases t.cases))
  | [], pre, A, x, s, i, hx, h, hi, H, hb => by
    subst hi
    have := ref05_OfExp_l2_loop t hl2 s0 t.cases [] A x s 0 hx rfl rfl Hc (by omega)
    rw [ref05_OfExp_l1_eq]; rw [Exp.cells_eq] at this ⊢; simp only [go_sem, end_facts (by simpa using h), nodesExps] at this ⊢
    exact this
  | u :: suf, pre, A, x, s, i, hx, h, hi, H, hb => by
    subst hi
    obtain ⟨f1, f2, f3⟩ := step_facts (x := .val (encS t.kb (t.kids.map Exp.enc))) (list?_encS _ _) h (by omega) (Exp.cells_len u) (by decide)
    obtain ⟨y, s1, e1, g1⟩ := H u (List.mem_cons_self) s
    have hlen := nodesExp_len u
    simp only [Exp.sizes] at hb
    obtain ⟨x', s2, e2, g2⟩ := nacc (hx.move g1.grew) g1.list? (by omega)
    have := ref05_OfExp_l1_loop t hl hl2 Hc s0 suf (pre ++ [u]) (A ++ nodesExp u) x' s2 (pre.length + 1) g2 (by simpa using h) (by simp) (fun w hw => H w (List.mem_cons_of_mem _ hw)) (by rw [List.length_append]; omega)
    rw [ref05_OfExp_l1_eq]; rw [Exp.cells_eq] at this ⊢; simp only [go_sem, Nat.reduceLeDiff, f1, f2, f3, e1, e2] at this ⊢
    simp only [go_sem, nodesExps]
    exact this
theorem ref05_OfExp_l0_loop (t : Exp) (hl0 : t.decs.length < 2^40) (hl : t.kids.length < 2^40) (hl2 : t.cases.length < 2^40) (He : ∀ c ∈ t.kids, ofExpOK c) (Hc : ∀ c ∈ t.cases, ofCaseOK c) (s0 : St) : ∀ (suf pre : List Dec) (A : List TNode) (x : Slot) (s : St) (i : Nat), NAcc s0 s x A → pre ++ suf = t.decs → i = pre.length → (∀ t ∈ suf, ofDecOK t) → A.length + Dec.sizes suf + Exp.sizes t.kids + Case.sizes t.cases < 2^30 →
    Nodes (ref05_OfExp_l0 (t.cells.map .val) x (.val (.int .i64 i)) s) s0 (A ++ (nodesDecs true suf ++ (nodesExps t.kids ++ nodesCases t.cases)))
  | [], pre, A, x, s, i, hx, h, hi, H, hb => by
    subst hi
    have := ref05_OfExp_l1_loop t hl hl2 Hc s0 t.kids [] A x s 0 hx rfl rfl He (by omega)
    rw [ref05_OfExp_l0_eq]; rw [Exp.cells_eq] at this ⊢; simp only [go_sem, Nat.reduceAdd, Nat.reduceLeDiff, end_facts (by simpa using h), nodesDecs] at this ⊢
    exact this
  | u :: suf, pre, A, x, s, i, hx, h, hi, H, hb => by
    subst hi
    obtain ⟨f1, f2, f3⟩ := step_facts (x := .val (encS t.db (t.decs.map Dec.enc))) (list?_encS _ _) h (by omega) (Dec.cells_len u) (by decide)
    obtain ⟨y, s1, e1, g1⟩ := H u (List.mem_cons_self) true s
    have hlen := nodesDec_len true u
    simp only [Dec.sizes] at hb
    obtain ⟨x', s2, e2, g2⟩ := nacc (hx.move g1.grew) g1.list? (by omega)
    have := ref05_OfExp_l0_loop t hl0 hl hl2 He Hc s0 suf (pre ++ [u]) (A ++ nodesDec true u) x' s2 (pre.length + 1) g2 (by simpa using h) (by simp) (fun w hw => H w (List.mem_cons_of_mem _ hw)) (by rw [List.length_append]; omega)
    rw [ref05_OfExp_l0_eq]; rw [Exp.cells_eq] at this ⊢; simp only [go_sem, Nat.reduceAdd, Nat.reduceLeDiff, f1, f2, f3, e1, e2] at this ⊢
    simp only [go_sem, nodesDecs]
    exact this
theorem ref05_OfDec_l2_loop (t : Dec) (hl : t.cons.length < 2^40) (s0 : St) : ∀ (suf pre : List Con) (A : List TNode) (x : Slot) (s : St) (i : Nat), NAcc s0 s x A → pre ++ suf = t.cons → i = pre.length → A.length + Con.sizes suf < 2^28 →
    Nodes (ref05_OfDec_l2 (t.cells.map .val) x (.val (.int .i64 i)) s) s0 (A ++ nodesCons suf)
  | [], pre, A, x, s, i, hx, h, hi, hb => by
    subst hi
    rw [ref05_OfDec_l2_eq]; simp only [go_sem, Nat.reduceAdd, Nat.reduceLeDiff, Dec.cells_eq, end_facts (by simpa using h), nodesCons]
    exact RetA.mk hx
  | .mk nm a hs arg :: suf, pre, A, x, s, i, hx, h, hi, hb => by
    subst hi
    obtain ⟨f1, f2, f3⟩ := step_facts (x := .val (encS t.nb (t.cons.map Con.enc))) (list?_encS _ _) h (by omega) (Con.cells_len ⟨nm, a, hs, arg⟩) (by decide)
    have hlen := nodesTy_len a arg
    simp only [Con.sizes, Con.size] at hb
    obtain ⟨x', s2, e2, g2⟩ := nacc (B := [.con ⟨nm, a, hs, arg⟩]) (y := .full [(TNode.con ⟨nm, a, hs, arg⟩).enc]) hx rfl (by simp only [List.length_singleton]; omega)
    cases hs with
    | false =>
      have := ref05_OfDec_l2_loop t hl s0 suf (pre ++ [⟨nm, a, false, arg⟩]) (A ++ [.con ⟨nm, a, false, arg⟩]) x' s2 (pre.length + 1) g2 (by simpa using h) (by simp) (by simp only [List.length_append, List.length_singleton]; omega)
      rw [ref05_OfDec_l2_eq]; rw [Dec.cells_eq] at this ⊢; simp only [go_sem, Nat.reduceAdd, Nat.reduceLeDiff, f1, f2, f3, TNode.cells, Dec.zero, Exp.zero, Pat.zero, Fun.zero, Case.zero, Con.zero, Ty.zero, Con.cells, TNode.enc] at e2 this ⊢
      simp only [go_sem, e2, nodesCons, nodesCon]
      exact this
    | true =>
      obtain ⟨y, s1, e1, g1⟩ := ref05_OfTy_spec _ a arg s2 (Nat.le_refl _) (by omega)
      obtain ⟨x3, s3, e3, g3⟩ := nacc (g2.move g1.grew) g1.list? (by simp only [List.length_append, List.length_singleton]; omega)
      have := ref05_OfDec_l2_loop t hl s0 suf (pre ++ [⟨nm, a, true, arg⟩]) (A ++ [.con ⟨nm, a, true, arg⟩] ++ nodesTy a arg) x3 s3 (pre.length + 1) g3 (by simpa using h) (by simp) (by simp only [List.length_append, List.length_singleton]; omega)
      rw [ref05_OfDec_l2_eq]; rw [Dec.cells_eq] at this ⊢; simp only [go_sem, Nat.reduceAdd, Nat.reduceLeDiff, f1, f2, f3, TNode.cells, Dec.zero, Exp.zero, Pat.zero, Fun.zero, Case.zero, Con.zero, Ty.zero, Con.cells, TNode.enc] at e2 this ⊢
      simp only [go_sem, e2, e1, e3, nodesCons, nodesCon]
      exact this
theorem ref05_OfDec_l1_loop (t : Dec) (hl : t.funs.length < 2^40) (hl2 : t.cons.length < 2^40) (s0 : St) : ∀ (suf pre : List Fun) (A : List TNode) (x : Slot) (s : St) (i : Nat), NAcc s0 s x A → pre ++ suf = t.funs → i = pre.length → (∀ f ∈ suf, ofCaseOK f.case) → A.length + Fun.sizes suf + Con.sizes t.cons < 2^28 →
    Nodes (ref05_OfDec_l1 (t.cells.map .val) x (.val (.int .i64 i)) s) s0 (A ++ (nodesFuns suf ++ nodesCons t.cons))
  | [], pre, A, x, s, i, hx, h, hi, H, hb => by
    subst hi
    have := ref05_OfDec_l2_loop t hl2 s0 t.cons [] A x s 0 hx rfl rfl (by omega)
    rw [ref05_OfDec_l1_eq]; rw [Dec.cells_eq] at this ⊢; simp only [go_sem, Nat.reduceAdd, Nat.reduceLeDiff, end_facts (by simpa using h), nodesFuns] at this ⊢
    exact this
  | .mk nm a c :: suf, pre, A, x, s, i, hx, h, hi, H, hb => by
    subst hi
    obtain ⟨f1, f2, f3⟩ := step_facts (x := .val (encS t.fb (t.funs.map Fun.enc))) (list?_encS _ _) h (by omega) (Fun.cells_len (.mk nm a c)) (by decide)
    have hlen := nodesCase_len c
    simp only [Fun.sizes, Fun.size] at hb
    obtain ⟨x', s2, e2, g2⟩ := nacc (B := [.fn (.mk nm a c)]) (y := .full [(TNode.fn (.mk nm a c)).enc]) hx rfl (by simp only [List.length_singleton]; omega)
    obtain ⟨y, s1, e1, g1⟩ := H (.mk nm a c) (List.mem_cons_self) s2
    simp only [Fun.case] at e1 g1
    obtain ⟨x3, s3, e3, g3⟩ := nacc (g2.move g1.grew) g1.list? (by simp only [List.length_append, List.length_singleton]; omega)
    have := ref05_OfDec_l1_loop t hl hl2 s0 suf (pre ++ [.mk nm a c]) (A ++ [.fn (.mk nm a c)] ++ nodesCase c) x3 s3 (pre.length + 1) g3 (by simpa using h) (by simp) (fun w hw => H w (List.mem_cons_of_mem _ hw)) (by simp only [List.length_append, List.length_singleton]; omega)
    rw [ref05_OfDec_l1_eq]; rw [Dec.cells_eq] at this ⊢; simp only [go_sem, Nat.reduceAdd, Nat.reduceLeDiff, f1, f2, f3, TNode.cells, Dec.zero, Exp.zero, Pat.zero, Fun.zero, Case.zero, Con.zero, Ty.zero, Con.cells, TNode.enc, Fun.at_] at e2 this ⊢
    simp only [go_sem, e2, e1, e3, nodesFuns, nodesFun]
    exact this
theorem ref05_OfDec_l0_loop (t : Dec) (hl0 : t.case.length < 2^40) (hl : t.funs.length < 2^40) (hl2 : t.cons.length < 2^40) (Hf : ∀ f ∈ t.funs, ofCaseOK f.case) (s0 : St) : ∀ (suf pre : List Case) (A : List TNode) (x : Slot) (s : St) (i : Nat), NAcc s0 s x A → pre ++ suf = t.case → i = pre.length → (∀ f ∈ suf, ofCaseOK f) → A.length + Case.sizes suf + Fun.sizes t.funs + Con.sizes t.cons < 2^28 →
    Nodes (ref05_OfDec_l0 (t.cells.map .val) x (.val (.int .i64 i)) s) s0 (A ++ (nodesCases suf ++ (nodesFuns t.funs ++ nodesCons t.cons)))
  | [], pre, A, x, s, i, hx, h, hi, H, hb => by
    subst hi
    have := ref05_OfDec_l1_loop t hl hl2 s0 t.funs [] A x s 0 hx rfl rfl Hf (by omega)
    rw [ref05_OfDec_l0_eq]; rw [Dec.cells_eq] at this ⊢; simp only [go_sem, end_facts (by simpa using h), nodesCases] at this ⊢
    exact this
  | u :: suf, pre, A, x, s, i, hx, h, hi, H, hb => by
    subst hi
    obtain ⟨f1, f2, f3⟩ := step_facts (x := .val (encS t.cb (t.case.map Case.enc))) (list?_encS _ _) h (by omega) (Case.cells_len u) (by decide)
    obtain ⟨y, s1, e1, g1⟩ := H u (List.mem_cons_self) s
    have hlen := nodesCase_len u
    simp only [Case.sizes] at hb
    obtain ⟨x', s2, e2, g2⟩ := nacc (hx.move g1.grew) g1.list? (by omega)
    have := ref05_OfDec_l0_loop t hl0 hl hl2 Hf s0 suf (pre ++ [u]) (A ++ nodesCase u) x' s2 (pre.length + 1) g2 (by simpa using h) (by simp) (fun w hw => H w (List.mem_cons_of_mem _ hw)) (by rw [List.length_append]; omega)
    rw [ref05_OfDec_l0_eq]; rw [Dec.cells_eq] at this ⊢; simp only [go_sem, Nat.reduceLeDiff, f1, f2, f3, e1, e2] at this ⊢
    simp only [go_sem, nodesCases]
    exact this
theorem ref05_of_all : ∀ m : Nat, (∀ e : Exp, e.size ≤ m → e.size < 2^26 → ofExpOK e) ∧ (∀ l : Dec, l.size ≤ m → l.size < 2^26 → ofDecOK l) := by
  intro m
  induction m with
  | zero =>
    refine ⟨fun e h _ => ?_, fun l h _ => ?_⟩
    · obtain ⟨k, a, nm, n, l, lb, c, cb, d, db⟩ := e
      simp only [Exp.size] at h; omega
    · obtain ⟨k, a, nm, p, l, nb, c, cb, f, fb⟩ := l; simp only [Dec.size] at h; omega
  | succ m ih =>
    obtain ⟨ihE, ihD⟩ := ih
    have hcase1 : ∀ t : Case, t.size ≤ m + 1 → t.size < 2^26 → ofCaseOK t := fun t h h' => by
      obtain ⟨p, e⟩ := t
      exact ref05_OfCase_of p e (ihE e (by simp only [Case.size] at h; omega) (by simp only [Case.size] at h'; omega)) (by omega)
    have hcase : ∀ (c : List Case), Case.sizes c ≤ m + 1 → Case.sizes c < 2^26 → ∀ t ∈ c, ofCaseOK t := fun c h h' t ht => by
      have := Case.mem_sizes ht
      exact hcase1 t (by omega) (by omega)
    refine ⟨fun e h h' s => ?_, fun d h h' inn s => ?_⟩
    · obtain ⟨k, a, nm, n, l, lb, c, cb, d, db⟩ := e
      simp only [Exp.size] at h h'
      have hl := Exp.len_sizes l
      have hl2 := Case.len_sizes c
      have hl3 := Dec.len_sizes d
      have := ref05_OfExp_l0_loop (.mk k a nm n l lb c cb d db) (by simp only [Exp.decs]; omega) (by simp only [Exp.kids]; omega) (by simp only [Exp.cases]; omega) (fun t ht => by have := Exp.mem_sizes ht; simp only [Exp.kids] at this; exact ihE t (by omega) (by omega)) (hcase c (by omega) (by omega)) s d [] [.exp (.mk k a nm n l lb c cb d db)] (.full [(TNode.exp (.mk k a nm n l lb c cb d db)).enc]) s 0 (AccR.full _ _ _) rfl rfl (fun t ht => ihD t (by have := Dec.mem_sizes ht; omega) (by have := Dec.mem_sizes ht; omega)) (by simp only [List.length_singleton, Exp.kids, Exp.cases]; omega)
      rw [ref05_OfExp_eq]; simp only [go_sem, Nat.reduceAdd, Nat.reduceLeDiff, Exp.enc, TNode.cells, Dec.zero, Exp.zero, Pat.zero, Fun.zero, Case.zero, Con.zero, Ty.zero, Con.cells, TNode.enc, nodesExp, Exp.at_, Exp.kids, Exp.cases] at this ⊢
      exact this
    · obtain ⟨k, a, nm, p, l, nb, c, cb, f, fb⟩ := d
      simp only [Dec.size] at h h'
      have hl := Con.len_sizes l
      have hl2 := Case.len_sizes c
      have hl3 := Fun.len_sizes f
      have := ref05_OfDec_l0_loop (.mk k a nm p l nb c cb f fb) (by simp only [Dec.case]; omega) (by simp only [Dec.funs]; omega) (by simp only [Dec.cons]; omega) (fun t ht => by
        have h2 := Fun.mem_sizes ht
        obtain ⟨nm, a, c'⟩ := t
        simp only [Dec.funs, Fun.size] at h2
        exact hcase1 c' (by omega) (by omega)) s c [] [.dec inn (.mk k a nm p l nb c cb f fb)] (.full [(TNode.dec inn (.mk k a nm p l nb c cb f fb)).enc]) s 0 (AccR.full _ _ _) rfl rfl (hcase c (by omega) (by omega)) (by simp only [List.length_singleton, Dec.funs, Dec.cons]; omega)
      rw [ref05_OfDec_eq]; simp only [go_sem, Nat.reduceAdd, Nat.reduceLeDiff, Dec.enc, TNode.cells, Dec.zero, Exp.zero, Pat.zero, Fun.zero, Case.zero, Con.zero, Ty.zero, Con.cells, TNode.enc, nodesDec, Dec.at_, Dec.funs, Dec.cons] at this ⊢
      exact this
theorem ref05_Of_loop (L : List Dec) (z : Slot) (hz : z.list? = some (L.map Dec.enc)) (hl : L.length < 2^40) (s0 : St) : ∀ (suf pre : List Dec) (A : List TNode) (x : Slot) (s : St) (i : Nat), NAcc s0 s x A → pre ++ suf = L → i = pre.length → A.length + Dec.sizes suf < 2^26 →
    Nodes (ref05_Of_l0 z x (.val (.int .i64 i)) s) s0 (A ++ nodesDecs false suf)
  | [], pre, A, x, s, i, hx, h, hi, hb => by
    subst hi
    rw [ref05_Of_l0_eq]; simp only [go_sem, hz, end_facts (by simpa using h), nodesDecs]
    exact RetA.mk hx
  | u :: suf, pre, A, x, s, i, hx, h, hi, hb => by
    subst hi
    obtain ⟨f1, f2, f3⟩ := step_facts hz h (by omega) (Dec.cells_len u) (by decide)
    simp only [Dec.sizes] at hb
    obtain ⟨y, s1, e1, g1⟩ := (ref05_of_all u.size).2 u (Nat.le_refl _) (by omega) false s
    have hlen := nodesDec_len false u
    obtain ⟨x', s2, e2, g2⟩ := nacc (hx.move g1.grew) g1.list? (by omega)
    have := ref05_Of_loop L z hz hl s0 suf (pre ++ [u]) (A ++ nodesDec false u) x' s2 (pre.length + 1) g2 (by simpa using h) (by simp) (by rw [List.length_append]; omega)
    rw [ref05_Of_l0_eq]; simp only [go_sem, Nat.reduceLeDiff, hz, f1, f2, f3, e1, e2, nodesDecs] at this ⊢
    exact this
theorem ref05_Of_spec (l : List Dec) (nl : Bool) (s : St) (h : Dec.sizes l < 2^26) : Nodes (cw (.f F_ref05_Of) [encS nl (l.map Dec.enc)] s) s (nodesDecs false l) := by
  have hl := Dec.len_sizes l
  have := ref05_Of_loop l (.val (encS nl (l.map Dec.enc))) (by simp only [go_sem]) (by omega) s l [] [] (.val .nils) s 0 (AccR.nil _ _) rfl rfl (by simp only [List.length_nil]; omega)
  rw [ref05_Of_eq]
  exact this
end Go.Proofs.YtinphnakebeloaaGreat

namespace Go.Proofs.YtinphnakebeloaaGreat
open Go Go.Am
set_option linter.unusedVariables false
set_option maxRecDepth 4000
theorem ref05_count_loop (L : List TNode) (z : Slot) (hz : z.list? = some (L.map TNode.enc)) (hl : L.length < 2^40) : ∀ (suf pre : List TNode) (n : Nat) (s : St) (i : Nat), pre ++ suf = L → i = pre.length → n + suf.length < 2^40 →
    ref05_count_l0 z (.val (.int .i64 n)) (.val (.int .i64 i)) s = some (.ret (.val (.int .i64 (n + countN suf : Nat))), s)
  | [], pre, n, s, i, h, hi, hb => by
    subst hi
    rw [ref05_count_l0_eq]; simp only [go_sem, hz, end_facts (by simpa using h)]; rfl
  | u :: suf, pre, n, s, i, h, hi, hb => by
    subst hi
    obtain ⟨f1, f2, f3⟩ := step_facts hz h (by omega) (TNode.cells_len u) (by decide)
    have hw : IntKind.i64.wrap ((n : Int) + 1) = ((n + 1 : Nat) : Int) := by rw [wrap64 (by omega) (by omega)]; rfl
    simp only [List.length_cons] at hb
    rw [TNode.enc, cells_agg, TNode.cells_3] at f2
    have h1 := ref05_count_loop L z hz hl suf (pre ++ [u]) n s (pre.length + 1) (by simpa using h) (by simp) (by omega)
    have h2 := ref05_count_loop L z hz hl suf (pre ++ [u]) (n + 1) s (pre.length + 1) (by simpa using h) (by simp) (by omega)
    rw [ref05_count_l0_eq]; simp only [go_sem, hz, f1, f2, f3, TNode.what_isNode, hw, h1, h2]
    cases hu : u.isNode
    · have e : countN (u :: suf) = countN suf := by simp [countN, hu]
      simp only [go_sem, e]
    · have e : countN (u :: suf) = countN suf + 1 := by simp [countN, hu]
      simp only [go_sem, e]
      rw [show n + 1 + countN suf = n + (countN suf + 1) by omega]
theorem ref05_count_spec (l : List TNode) (v : AV) (hv : (Slot.val v).list? = some (l.map TNode.enc)) (s : St) (h : l.length < 2^39) : cw (.f F_ref05_count) [v] s = some (.ret (.val (.int .i64 (countN l))), s) := by
  rw [ref05_count_eq]
  have := ref05_count_loop l (.val v) hv (by omega) l [] 0 s 0 rfl rfl (by omega)
  rw [Nat.zero_add] at this
  exact this
theorem ref05_first_loop (L : List TNode) (z : Slot) (hz : z.list? = some (L.map TNode.enc)) (hl : L.length < 2^40) : ∀ (suf pre : List TNode) (s : St) (i : Nat), pre ++ suf = L → i = pre.length → (∀ n ∈ suf, n.ok) →
    ref05_first_l0 z [.val (.int .i64 0), .val (.int .i64 0), .val (.str [])] (.val (.int .i64 i)) s = some (.ret (.val (firstBad suf).enc), s)
  | [], pre, s, i, h, hi, H => by
    subst hi
    rw [ref05_first_l0_eq]; simp only [go_sem, Nat.reduceAdd, Nat.reduceLeDiff, hz, end_facts (by simpa using h)]; rfl
  | u :: suf, pre, s, i, h, hi, H => by
    subst hi
    obtain ⟨f1, f2, f3⟩ := step_facts hz h (by omega) (TNode.cells_len u) (by decide)
    obtain ⟨nm, e1, e2⟩ := ref05_wrong_spec u s (H u (List.mem_cons_self))
    have ih := ref05_first_loop L z hz hl suf (pre ++ [u]) s (pre.length + 1) (by simpa using h) (by simp) (fun w hw => H w (List.mem_cons_of_mem _ hw))
    have f2' := f2
    rw [TNode.enc, cells_agg, TNode.cells_3] at f2'
    have hj : ∀ (e : Int) (nm : Str), ref05_first_j0 z [.val (.int .i64 0), .val (.int .i64 0), .val (.str [])] (.val (.int .i64 pre.length)) (.val (.int .i64 e)) (.val (.str nm)) s = some (.ret (.val (TBad.mk e u.at_ nm).enc), s) := fun e nm => by
      rw [ref05_first_j0_eq]; simp only [go_sem, Nat.reduceAdd, Nat.reduceLeDiff, f2']; rfl
    rw [ref05_first_l0_eq]; simp only [go_sem, Nat.reduceAdd, Nat.reduceLeDiff, hz, f1, f2, f3, e1, ih, hj]
    by_cases h0 : u.wrong.1 = 0
    · simp only [go_sem, Int.reduceEq, h0, firstBad, TNode.bad, mkBad, TBad.zero]
    · have hk : decide (u.bad.kind = 0) = false := by simp [TNode.bad, mkBad, h0]
      by_cases h8 : u.wrong.1 = 8
      · have := e2 h8
        subst this
        simp only [go_sem, Int.reduceEq, h8, firstBad, hk]
        simp only [TNode.bad, h8]; rfl
      · simp only [go_sem, decide_eq_false h0, decide_eq_false h8, firstBad, hk]
        simp only [TNode.bad, mkBad, decide_eq_false h0, decide_eq_false h8]; rfl
theorem ref05_first_spec (l : List TNode) (v : AV) (hv : (Slot.val v).list? = some (l.map TNode.enc)) (deep : Int) (s : St) (h : l.length < 2^39) (H : ∀ n ∈ l, n.ok) : cw (.f F_ref05_first) [v, .int .i64 deep] s = some (.ret (.val (rightN l deep).enc), s) := by
  have h1 := ref05_count_spec l v hv s h
  have h2 := ref05_first_loop l (.val v) hv (by omega) l [] s 0 rfl rfl H
  rw [show ((0 : Nat) : Int) = 0 from rfl] at h2
  rw [ref05_first_eq]; simp only [go_sem, Nat.reduceAdd, Nat.reduceLeDiff, h1, h2]
  have e : decide ((countN l : Int) > 8192) = decide (countN l > 8192) := by simp only [gt_iff_lt]; congr 1; rw [eq_iff_iff]; omega
  rw [e]
  unfold rightN
  cases decide (countN l > 8192) <;> cases decide (deep > 100) <;> rfl
theorem ref05_Right_spec (l : List Dec) (nl : Bool) (s : St) (h : Dec.sizes l < 2^26) (H : ∀ n ∈ nodesDecs false l, n.ok) : Ret (cw (.f F_ref05_Right) [encS nl (l.map Dec.enc)] s) s (rightN (nodesDecs false l) (deepDecs l 0)).enc := by
  obtain ⟨x, s1, e1, g1⟩ := ref05_Of_spec l nl s h
  have hlen := nodesDecs_len false l
  obtain ⟨b, hb⟩ := g1.av
  have h2 := ref05_Deep_spec l nl s1 (by omega)
  have h3 := ref05_first_spec (nodesDecs false l) (encS b ((nodesDecs false l).map TNode.enc)) (by simp only [go_sem]) (deepDecs l 0) s1 (by omega) H
  rw [ref05_Right_eq]; simp only [go_sem, e1, h2, avs_cons hb, h3]
  exact Ret.mk g1.grew
theorem ref05_Size_spec (l : List Dec) (nl : Bool) (s : St) (h : Dec.sizes l < 2^26) : Ret (cw (.f F_ref05_Size) [encS nl (l.map Dec.enc)] s) s (.int .i64 (countN (nodesDecs false l))) := by
  obtain ⟨x, s1, e1, g1⟩ := ref05_Of_spec l nl s h
  have hlen := nodesDecs_len false l
  obtain ⟨b, hb⟩ := g1.av
  have h3 := ref05_count_spec (nodesDecs false l) (encS b ((nodesDecs false l).map TNode.enc)) (by simp only [go_sem]) s1 (by omega)
  rw [ref05_Size_eq]; simp only [go_sem, e1, avs_cons hb, h3]
  exact Ret.mk g1.grew
end Go.Proofs.YtinphnakebeloaaGreat

namespace Go.Proofs.YtinphnakebeloaaGreat
open Go Go.Am
set_option linter.unusedVariables false
set_option maxRecDepth 4000
theorem mem_nodesDecs {inn : Bool} : ∀ {P : List Dec} {d : Dec}, d ∈ P → .dec inn d ∈ nodesDecs inn P
  | d :: P, e, h => by
    simp only [nodesDecs]
    rcases List.mem_cons.1 h with rfl | h
    · cases e; simp only [nodesDec]; exact List.mem_append_left _ List.mem_cons_self
    · exact List.mem_append_right _ (mem_nodesDecs h)
theorem decFit_of {P : List Dec} (hs : Dec.sizes P < 2^24) (h : rightN (nodesDecs false P) (deepDecs P 0) = .zero) : ∀ d ∈ P, DecFit d := by
  intro d hd
  have hw : wrongDecB d false = 0 := right_nodes h _ (mem_nodesDecs hd)
  have D := dec_is hw
  have hsz := Dec.mem_sizes hd
  constructor
  · by_cases h3 : d.kind = 3
    · have := (D.data h3).2.2.2.1; omega
    · have := (D.bare h3).1; omega
  · intro c hc
    have h1 := Con.mem_sizes hc
    have h2 : Con.sizes d.cons ≤ d.size := by
      cases d; simp only [Dec.size, Dec.cons]; omega
    refine wide_of_size _ ?_
    simp only [Con.size] at h1
    omega
theorem Check_sp (P : List Dec) (nl : Bool) (hs : Dec.sizes P < 2^24) (hok : ∀ n ∈ nodesDecs false P, n.ok) (s : St) : Ret (cw (.f F_scope_Check) [encS nl (P.map Dec.enc)] s) s (checkD P).enc :=
  scope_Check_spec P nl hs (decFit_of hs) hok s
def fewB (P : List Dec) : Bool := decide ((P.length : Int) ≤ 12) && decide (((countN (nodesDecs false P) : Nat) : Int) ≤ 300)
theorem law12_few_spec (P : List Dec) (nl : Bool) (hs : Dec.sizes P < 2^24) (s : St) : Ret (cw (.f F_law12_few) [encS nl (P.map Dec.enc)] s) s (.bool (fewB P)) := by
  obtain ⟨s1, e1, g1⟩ := ref05_Size_spec P nl s (by omega)
  rw [law12_few_eq]
  unfold fewB
  by_cases h : (P.length : Int) ≤ 12
  · refine ⟨s1, ?_, g1⟩
    simp only [go_sem, List.length_map, h, decide_true, e1, Bool.true_and]
  · refine ⟨s, ?_, .refl s⟩
    simp only [go_sem, List.length_map, decide_eq_false h, Bool.false_and]
def valD (p : Pat) (e : Exp) : Dec := .mk 1 0 [] 0 [] true [.mk p e] false [] true
theorem law12_val_spec (p : Pat) (e : Exp) (s : St) : cw (.f F_law12_val) [p.enc, e.enc] s = some (.ret (.val (valD p e).enc), s) := by
  rw [law12_val_eq]
  simp only [go_sem, Nat.reduceAdd, Nat.reduceLeDiff, Pat.enc, Exp.enc, Pat.cells_eq, Exp.cells_eq, valD, Dec.enc, Dec.cells_mk, List.map_cons, List.map_nil, encS_false, encS_nil, Case.enc, Case.cells_mk, List.cons_append, List.nil_append]
theorem ref12_Same_lp (l m : List Str) (x y : Slot) (hx : x.list? = some (l.map .str)) (hy : y.list? = some (m.map .str)) (hl : l.length < 2^40) (he : l.length = m.length) (s : St) : ∀ (suf suf' pre pre' : List Str) (i : Nat), pre ++ suf = l → pre' ++ suf' = m → i = pre.length → pre'.length = pre.length →
    ref12_Same_l0 x y (.val (.int .i64 i)) s = some (.ret (.val (.bool (decide (suf = suf')))), s)
  | [], suf', pre, pre', i, hp, hp', hi, hi' => by
    subst hi
    have : suf' = [] := by
      have h1 : l.length = pre.length := by rw [← hp]; simp
      have h2 : m.length = pre'.length + suf'.length := by rw [← hp']; simp
      exact List.eq_nil_of_length_eq_zero (by omega)
    subst this
    rw [ref12_Same_l0_eq]; simp only [go_sem, hx, List.length_map, end_facts (show pre = l by simpa using hp), decide_true]
  | k :: suf, [], pre, pre', i, hp, hp', hi, hi' => by
    have h1 : l.length = pre.length + (suf.length + 1) := by rw [← hp]; simp
    have h2 : m.length = pre'.length := by rw [← hp']; simp
    omega
  | k :: suf, k' :: suf', pre, pre', i, hp, hp', hi, hi' => by
    subst hi
    obtain ⟨f1, f2, f3⟩ := step_facts hx hp (by omega) (sz := 1) rfl (by decide)
    obtain ⟨f4, f5, f6⟩ := step_facts hy hp' (by omega) (sz := 1) rfl (by decide)
    rw [hi'] at f5
    have ih := ref12_Same_lp l m x y hx hy hl he s suf suf' (pre ++ [k]) (pre' ++ [k']) (pre.length + 1) (by simpa using hp) (by simpa using hp') (by simp) (by simp [hi'])
    rw [ref12_Same_l0_eq]
    by_cases e : k = k'
    · subst e
      simp only [go_sem, Nat.reduceAdd, Nat.reduceLeDiff, hx, List.length_map, f1, f2, f3, f5, decide_true, Bool.not_true, ih, List.cons.injEq, true_and]
    · have : ¬ (k :: suf = k' :: suf') := fun h => e (List.cons.inj h).1
      simp only [go_sem, Nat.reduceAdd, Nat.reduceLeDiff, hx, List.length_map, f1, f2, f3, f5, decide_eq_false e, Bool.not_false, decide_eq_false this]
theorem ref12_Same_spec (l m : List Str) (v w : AV) (hv : (Slot.val v).list? = some (l.map .str)) (hw : (Slot.val w).list? = some (m.map .str)) (hl : l.length < 2^40) (s : St) : cw (.f F_ref12_Same) [v, w] s = some (.ret (.val (.bool (decide (l = m)))), s) := by
  rw [ref12_Same_eq]
  by_cases he : l.length = m.length
  · have e1 := ref12_Same_lp l m (.val v) (.val w) hv hw hl he s l m [] [] 0 rfl rfl rfl rfl
    rw [show ((0 : Nat) : Int) = 0 from rfl] at e1
    have he' : decide ((l.length : Int) = (m.length : Int)) = true := by simp only [decide_eq_true_eq]; omega
    simp only [go_sem, hv, hw, List.length_map, he', Bool.not_true, e1]
  · have he' : decide ((l.length : Int) = (m.length : Int)) = false := by simp only [decide_eq_false_iff_not]; omega
    have : ¬ (l = m) := fun h => he (by rw [h])
    simp only [go_sem, hv, hw, List.length_map, he', Bool.not_false, decide_eq_false this]
def kx : Str := [120]
def kpx : Pat := .mk 2 0 kx 0 [] true
def kv : Exp := .mk 2 8 kx 0 [] true [] true [] true
def kint : Exp := .mk 1 0 [] 0 [] true [] true [] true
theorem kc1 : checkD [valD kpx kv] = ⟨16, 8, kx⟩ := by decide +kernel
theorem kc2 : checkD [valD kpx kint, valD kpx kv] = .zero := by decide +kernel
theorem kc3 : freeD kv = [kx] := by decide +kernel
theorem kc4 : bindsD (valD kpx kv) = [kx] := by decide +kernel
theorem kok {P : List Dec} (h : (nodesDecs false P).all (fun n => match n with | .dec _ d => decide (d.name.length < 2^40) | .exp e => decide (e.name.length < 2^40) && decide (e.kids.length < 2^40) && decide (-9223372036854775808 ≤ e.n) && decide (e.n ≤ 9223372036854775807) | .pat p => decide (p.name.length < 2^40) && decide (-9223372036854775808 ≤ p.n) && decide (p.n ≤ 9223372036854775807) | .ty t _ => decide (t.name.length < 2^40) | .fn f => decide (f.name.length < 2^40) | .con c => decide (c.name.length < 2^40)) = true) : ∀ n ∈ nodesDecs false P, n.ok := by
  intro n hn
  have := List.all_eq_true.1 h n hn
  cases n <;> simp only [TNode.ok, Bool.and_eq_true, decide_eq_true_eq] at this ⊢ <;> first | exact this | exact ⟨this.1.1.1, this.1.1.2, this.1.2, this.2⟩ | exact ⟨this.1.1, this.1.2, this.2⟩
theorem law12_knows_spec (s : St) : Ret (cw (.f F_law12_knows) [] s) s (.bool true) := by
  have v1 := fun s => law12_val_spec kpx kv s
  have v2 := fun s => law12_val_spec kpx kint s
  obtain ⟨s1, e1, g1⟩ := Check_sp [valD kpx kv] false (by decide +kernel) (kok (by decide +kernel)) s
  obtain ⟨s2, e2, g2⟩ := Check_sp [valD kpx kint, valD kpx kv] false (by decide +kernel) (kok (by decide +kernel)) s1
  obtain ⟨x3, s3, w3, e3, a3, l3, g3⟩ := scope_Free_spec kv (by decide +kernel) (by
    intro n hn
    simp only [kv, nodesExp, nodesExps, nodesCases, nodesDecs, List.nil_append, List.append_nil, List.mem_cons, List.not_mem_nil, or_false] at hn
    subst hn
    simp [TNode.ok, Exp.name, Exp.kids, Exp.n, kx]) s2
  obtain ⟨x4, s4, w4, e4, a4, l4, g4⟩ := scope_Binds_spec (valD kpx kv) (by decide +kernel) (kok (by decide +kernel)) s3
  rw [kc1] at e1
  rw [kc2] at e2
  rw [kc3] at l3
  rw [kc4] at l4
  have r3 := fun s => ref12_Same_spec [kx] [kx] w3 (.sl [.str kx]) l3 rfl (by decide) s
  have r4 := fun s => ref12_Same_spec [kx] [kx] w4 (.sl [.str kx]) l4 rfl (by decide) s
  refine ⟨s4, ?_, ((g1.trans g2).trans g3).trans g4⟩
  simp only [decide_true] at r3 r4
  simp only [valD, kpx, kv, kint, kx, List.map_cons, List.map_nil, encS_false, encS_nil, encS_cons, Pat.enc, Pat.cells_mk, Exp.enc, Exp.cells_mk, Dec.enc, Dec.cells_mk, Case.enc, Case.cells_mk, List.cons_append, List.nil_append, TBad.enc, TBad.cells, TBad.zero] at v1 v2 e1 e2 e3 e4 r3 r4
  rw [law12_knows_eq]
  simp only [go_sem, Nat.reduceAdd, Nat.reduceLeDiff, v1, v2, e1, e2, e3, e4, r3, r4, avs_cons a3, avs_cons a4]
end Go.Proofs.YtinphnakebeloaaGreat

namespace Go.Proofs.YtinphnakebeloaaGreat
open Go Go.Am
set_option linter.unusedVariables false
theorem addD_plain (t : List Place) (d : Dec) (h : d.kind = 1 ∨ d.kind = 2) : addD t d = (t, .zero) := by
  unfold addD
  rw [decide_eq_false (show ¬ d.kind = 3 by omega), cond_false, decide_eq_false (show ¬ d.kind = 4 by omega), cond_false]
theorem ofD_plain (t : List Place) : ∀ P : List Dec, (∀ d ∈ P, d.kind = 1 ∨ d.kind = 2) → ofD P t = (t, .zero)
  | [], _ => rfl
  | d :: P, h => by
    simp only [ofD, addD_plain t d (h d List.mem_cons_self)]
    rw [if_neg (by simp [TBad.zero])]
    exact ofD_plain t P fun d hd => h d (List.mem_cons_of_mem _ hd)
theorem chkDecs_plain (t : List Place) : ∀ (P : List Dec) (bd : List Str) (st : Option TBad), (∀ d ∈ P, d.kind = 1 ∨ d.kind = 2) → chkDecs P t bd st = scDecs (chkI t) P bd st
  | [], bd, st, _ => by simp only [chkDecs, scDecs]
  | d :: P, bd, st, h => by
    simp only [chkDecs, scDecs, addD_plain t d (h d List.mem_cons_self)]
    exact chkDecs_plain t P _ _ fun d hd => h d (List.mem_cons_of_mem _ hd)
def kint0 : Exp := .mk 1 0 [] 0 [] true [] true [] true
def letD (P : List Dec) (b : Bool) : Dec := .mk 1 0 [] 0 [] true [.mk (.mk 1 0 [] 0 [] true) (.mk 7 0 [] 0 [kint0] false [] true P b)] false [] true
theorem let_check (P : List Dec) (b : Bool) (h : ∀ d ∈ P, d.kind = 1 ∨ d.kind = 2) (h1 : rightN (nodesDecs false P) (deepDecs P 0) = .zero) (h2 : rightN (nodesDecs false [letD P b]) (deepDecs [letD P b] 0) = .zero) : checkD P = checkD [letD P b] := by
  have hk : ∀ d ∈ [letD P b], d.kind = 1 ∨ d.kind = 2 := by
    intro d hd
    simp only [List.mem_singleton] at hd
    subst hd
    exact .inl rfl
  unfold checkD
  simp only [h1, h2, ofD_plain startD P h, ofD_plain startD _ hk, chkDecs_plain startD P _ _ h, chkDecs_plain startD _ _ _ hk, ne_eq, not_true_eq_false, if_false]
  have e : (scDecs (chkI startD) [letD P b] [] none).2 = (scDecs (chkI startD) P [] none).2 := by
    have e1 : (scDecs (chkI startD) [letD P b] [] none).2 = scExps (chkI startD) [kint0] (scDecs (chkI startD) P [] none).1 (scDecs (chkI startD) P [] none).2 := by
      simp only [letD, scDecs, scDec, decide_true, cond_true, scVals, scPat, Int.reduceEq, decide_false, Bool.or_self, cond_false, scPats, scExp, scVar, scCases]
      rfl
    rw [e1]
    simp only [scExps, kint0, scExp, scVar, scDecs, scCases, Int.reduceEq, decide_false, cond_false]
    cases (chkI startD).stop (scDecs (chkI startD) P [] none).2 <;> rfl
  rw [e]
end Go.Proofs.YtinphnakebeloaaGreat

namespace Go.Proofs.YtinphnakebeloaaGreat
open Go Go.Am
set_option linter.unusedVariables false
set_option maxRecDepth 4000
mutual
theorem ok_in_dec (i j : Bool) : ∀ d : Dec, (∀ n ∈ nodesDec i d, n.ok) → ∀ n ∈ nodesDec j d, n.ok
  | .mk k a s p l lb c cb f fb, h, n, hn => by
    simp only [nodesDec, List.mem_cons] at h hn
    rcases hn with rfl | hn
    · exact h (.dec i (.mk k a s p l lb c cb f fb)) (.inl rfl)
    · exact h n (.inr hn)
end
theorem ok_inner (i j : Bool) : ∀ P : List Dec, (∀ n ∈ nodesDecs i P, n.ok) → ∀ n ∈ nodesDecs j P, n.ok
  | [], _, n, hn => by simp only [nodesDecs] at hn; cases hn
  | d :: P, h, n, hn => by
    simp only [nodesDecs, List.mem_append] at h hn
    rcases hn with hn | hn
    · exact ok_in_dec i j d (fun n hn => h n (.inl hn)) n hn
    · exact ok_inner i j P (fun n hn => h n (.inr hn)) n hn
theorem law12_ScopeLet_loop (P : List Dec) (nl : Bool) (hs : Dec.sizes P < 2^23) (hok : ∀ n ∈ nodesDecs false P, n.ok) : ∀ (suf pre : List Dec) (s : St) (i : Nat), pre ++ suf = P → i = pre.length → (∀ d ∈ pre, d.kind = 1 ∨ d.kind = 2) →
    Ret (law12_ScopeLet_l0 (.val (encS nl (P.map Dec.enc))) (.val (encS nl (P.map Dec.enc))) (.val (.int .i64 P.length)) (.val (.int .i64 i)) s) s (.bool true)
  | [], pre, s, i, hp, hi, hk => by
    subst hi
    have hpP : pre = P := by simpa using hp
    subst hpP
    have hs2 : Dec.sizes [letD pre nl] < 2^24 := by
      simp only [letD, kint0, Dec.sizes, Dec.size, Con.sizes, Case.sizes, Case.size, Pat.size, Pat.sizes, Exp.size, Exp.sizes, Fun.sizes]; omega
    have hok2 : ∀ n ∈ nodesDecs false [letD pre nl], n.ok := by
      intro n hn
      simp only [letD, kint0, nodesDecs, nodesDec, nodesCases, nodesCase, nodesPat, nodesPats, nodesExp, nodesExps, nodesFuns, nodesCons, List.nil_append, List.append_nil, List.cons_append, List.mem_cons, List.mem_append, List.not_mem_nil, or_false] at hn
      rcases hn with rfl | rfl | rfl | hn | rfl
      · simp [TNode.ok, Dec.name]
      · simp [TNode.ok, Pat.name, Pat.n]
      · simp [TNode.ok, Exp.name, Exp.kids, Exp.n]
      · exact ok_inner false true pre hok n hn
      · simp [TNode.ok, Exp.name, Exp.kids, Exp.n]
    obtain ⟨s1, e1, g1⟩ := ref05_Right_spec pre nl s (by omega) hok
    have v1 := law12_val_spec (.mk 1 0 [] 0 [] true) (.mk 7 0 [] 0 [kint0] false [] true pre nl)
    simp only [kint0, encS_nil, encS_false, Pat.enc, Exp.enc, Pat.cells_mk, Exp.cells_mk, List.map_cons, List.map_nil, encS_cons] at v1
    have hin : (letD pre nl).enc = (valD (.mk 1 0 [] 0 [] true) (.mk 7 0 [] 0 [kint0] false [] true pre nl)).enc := rfl
    obtain ⟨s2, e2, g2⟩ := ref05_Right_spec [letD pre nl] false s1 (by omega) hok2
    simp only [List.map_cons, List.map_nil, encS_cons, hin] at e2
    simp only [kint0] at e2
    have K := law12_knows_spec
    by_cases h1 : rightN (nodesDecs false pre) (deepDecs pre 0) = .zero
    · by_cases h2 : rightN (nodesDecs false [letD pre nl]) (deepDecs [letD pre nl] 0) = .zero
      · obtain ⟨s3, e3, g3⟩ := Check_sp pre nl (by omega) hok s2
        obtain ⟨s4, e4, g4⟩ := Check_sp [letD pre nl] false hs2 hok2 s3
        simp only [List.map_cons, List.map_nil, encS_cons, hin] at e4
        simp only [kint0] at e4
        obtain ⟨s5, e5, g5⟩ := K s4
        have hc := let_check pre nl hk h1 h2
        rw [← hc] at e4
        rw [h1] at e1
        rw [h2] at e2
        refine ⟨s5, ?_, (((g1.trans g2).trans g3).trans g4).trans g5⟩
        revert e3 e4
        generalize checkD pre = b
        intro e3 e4
        obtain ⟨k, a, nm⟩ := b
        simp only [TBad.enc, TBad.cells, TBad.zero] at e1 e2 e3 e4
        rw [law12_ScopeLet_l0_eq]
        simp only [go_sem, Nat.reduceAdd, Nat.reduceLeDiff, end_facts rfl, v1, e1, e2, e3, e4, e5, Bool.not_true]
      · obtain ⟨s3, e3, g3⟩ := K s2
        rw [h1] at e1
        refine ⟨s3, ?_, (g1.trans g2).trans g3⟩
        have hz : (rightN (nodesDecs false [letD pre nl]) (deepDecs [letD pre nl] 0)).kind ≠ 0 := fun h => h2 (right_kind.1 h)
        revert e2 hz
        generalize rightN (nodesDecs false [letD pre nl]) (deepDecs [letD pre nl] 0) = b
        intro e2 hz
        obtain ⟨k, a, nm⟩ := b
        simp only [TBad.enc, TBad.cells, TBad.zero] at e1 e2 hz
        rw [law12_ScopeLet_l0_eq]
        simp only [go_sem, Nat.reduceAdd, Nat.reduceLeDiff, end_facts rfl, v1, e1, e2, e3, decide_eq_false hz, Bool.not_true, Bool.not_false]
    · obtain ⟨s3, e3, g3⟩ := K s1
      refine ⟨s3, ?_, g1.trans g3⟩
      have hz : (rightN (nodesDecs false pre) (deepDecs pre 0)).kind ≠ 0 := fun h => h1 (right_kind.1 h)
      revert e1 hz
      generalize rightN (nodesDecs false pre) (deepDecs pre 0) = b
      intro e1 hz
      obtain ⟨k, a, nm⟩ := b
      simp only [TBad.enc, TBad.cells] at e1 hz
      rw [law12_ScopeLet_l0_eq]
      simp only [go_sem, Nat.reduceAdd, Nat.reduceLeDiff, end_facts rfl, v1, e1, e3, decide_eq_false hz, Bool.not_true, Bool.not_false]
  | d :: suf, pre, s, i, hp, hi, hk => by
    subst hi
    obtain ⟨f1, f2, f3⟩ := step_facts (x := .val (encS nl (P.map Dec.enc))) (list?_encS _ _) hp (by have := Dec.len_sizes P; omega) (Dec.cells_len d) (by decide)
    rw [law12_ScopeLet_l0_eq]
    by_cases h : d.kind = 1 ∨ d.kind = 2
    · have ih := law12_ScopeLet_loop P nl hs hok suf (pre ++ [d]) s (pre.length + 1) (by simpa using hp) (by simp) (fun q hq => by
        rcases List.mem_append.1 hq with hq | hq
        · exact hk q hq
        · simp only [List.mem_singleton] at hq; subst hq; exact h)
      have hb : (!decide (d.kind = 1) && !decide (d.kind = 2)) = false := by
        rcases h with h | h <;> simp [h]
      simp only [go_sem, Nat.reduceAdd, Nat.reduceLeDiff, f1, f2, f3, Dec.cells_eq, List.map_cons, List.map_nil, hb]
      exact ih
    · obtain ⟨s1, e1, g1⟩ := law12_knows_spec s
      have hb : (!decide (d.kind = 1) && !decide (d.kind = 2)) = true := by
        simp only [not_or] at h
        simp [h.1, h.2]
      refine ⟨s1, ?_, g1⟩
      simp only [go_sem, Nat.reduceAdd, Nat.reduceLeDiff, f1, f2, f3, Dec.cells_eq, List.map_cons, List.map_nil, hb, e1]
theorem law12_ScopeLet_spec (P : List Dec) (nl : Bool) (hs : Dec.sizes P < 2^23) (hok : ∀ n ∈ nodesDecs false P, n.ok) (s : St) : Ret (cw (.f F_law12_ScopeLet) [encS nl (P.map Dec.enc)] s) s (.bool true) := by
  obtain ⟨s1, e1, g1⟩ := law12_few_spec P nl (by omega) s
  rw [law12_ScopeLet_eq]
  cases hf : fewB P with
  | false =>
    obtain ⟨s2, e2, g2⟩ := law12_knows_spec s1
    rw [hf] at e1
    refine ⟨s2, ?_, g1.trans g2⟩
    simp only [go_sem, e1, e2, Bool.not_false]
  | true =>
    rw [hf] at e1
    by_cases h0 : ((P.length : Int) = 0)
    · obtain ⟨s2, e2, g2⟩ := law12_knows_spec s1
      refine ⟨s2, ?_, g1.trans g2⟩
      simp only [go_sem, e1, e2, Bool.not_true, List.length_map, h0, decide_true]
    · obtain ⟨s2, e2, g2⟩ := law12_ScopeLet_loop P nl hs hok P [] s1 0 rfl rfl (by simp)
      rw [show ((0 : Nat) : Int) = 0 from rfl] at e2
      refine ⟨s2, ?_, g1.trans g2⟩
      simp only [go_sem, e1, Bool.not_true, List.length_map, decide_eq_false h0]
      exact e2
theorem law12_ScopeLet_row {k0 : Nat} (P : List Dec) (b : Bool) (g : Dec.sizes P ≤ k0 ∧ ∀ i, ∀ nd ∈ nodesDecs i P, nd.ok) (hb : k0 + 0 ≤ 1048576) : Ret (cw (.f F_law12_ScopeLet) [encS b (P.map Dec.enc)] st0) st0 (.bool true) :=
  law12_ScopeLet_spec P b (by omega) (g.2 false) st0
end Go.Proofs.YtinphnakebeloaaGreat
