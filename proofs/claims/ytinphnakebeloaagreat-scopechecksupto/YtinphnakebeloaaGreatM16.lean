/- A part of the proof: SRef12c, SRef12d, PDeclEq, PScope4, LScopeChecks. -/
import Derived.Test.YtinphnakebeloaaGreatM13
import Derived.Test.YtinphnakebeloaaGreatM14
import Derived.Test.YtinphnakebeloaaGreatM15
set_option linter.unusedVariables false
set_option linter.unusedSimpArgs false
namespace Go.Proofs.YtinphnakebeloaaGreat
open Go Go.Am
set_option linter.unusedVariables false
set_option maxRecDepth 4000
theorem QiP {x : Slot} {L : List Str} (hx : x.list? = some (L.map .str)) {i : Nat} (hi : i ≤ L.length) : ∃ y v, sliceS (C.ti Qf) (C.ti Q1).size x none (some (.val (.int .i64 i))) none = some y ∧ y.av = some v ∧ (Slot.val v).list? = some ((L.take i).map .str) := by
 have hall : (L.map AV.str).all (fun v => v.cells.length == 1) = true := by simp [AV.cells]
 have hb : ∀ n : Nat, i ≤ n → bound (some (.val (.int .i64 (i : Int)))) n n = some i := fun n hn => by simp only [bound]; rw [if_pos (by omega)]; simp
 have hg : ∀ x : Slot, x.list? = some (L.map .str) → x ≠ .val .nils → sliceS (C.ti Qf) (C.ti Q1).size x none (some (.val (.int .i64 i))) none = some (.val (.sl ((L.map AV.str).take i))) := fun x hx hne => by
  unfold sliceS
  rw [Qa3, Zd]
  cases x with
  | und => cases hx
  | no => cases hx
  | own k e l => cases hx; simp only [Slot.list?, hall, Bool.true_and, Nat.blt_eq, Nat.lt_add_one, cond_true, decide_true]; rw [hb _ (by simpa using hi)]; simp [bound]; rfl
  | full l => cases hx; simp only [Slot.list?, hall, Bool.true_and, Nat.blt_eq, Nat.lt_add_one, cond_true, decide_true]; rw [hb _ (by simpa using hi)]; simp [bound]; rfl
  | val v =>
    cases v with
    | nils => exact absurd rfl hne
    | sl l => cases hx; simp only [Slot.list?, hall, Bool.true_and, Nat.blt_eq, Nat.lt_add_one, cond_true, decide_true]; rw [hb _ (by simpa using hi)]; simp [bound]; rfl
    | _ => cases hx
 by_cases hne : x = .val .nils
 ·subst hne
  have hL : L = [] := by simpa [Slot.list?] using hx.symm
  subst hL
  have hi0 : i = 0 := by simpa using hi
  subst hi0
  refine ⟨.val .nils, .nils, ?_, rfl, rfl⟩
  unfold sliceS
  rw [Qa3]
  rfl
 ·exact ⟨_, _, hg x hx hne, rfl, by simp only [Slot.list?, List.map_take]⟩
section
variable (t : List Place) (tv : AV)
theorem Qh0 (h : TabFit t) (hv : (Slot.val tv).list? = some (t.map Place.enc)) (p : Pat) (e : Exp) (he : ExpROK t tv e) : OneROK t tv (.mk p e) := by
 intro bd v s hw hn
 simp only [Case.size] at hn
 obtain ⟨s1, w1, e1, l1, g1⟩ := Q5b t tv h hv _ p (Nat.le_refl _) [] .nils s rfl (by simp only [List.length_nil]; omega)
 have e2 := QC (patR t p []).1 s1
 have hlen := QbU t p []
 simp only [Pat.enc, Pat.cells_eq, TBad.enc, TBad.cells] at e1 e2
 rw [QgZ]
 simp only [oneR]
 by_cases hz : (patR t p []).1.kind = 0
 ·rw [QY hz]
  rw [decide_eq_true hz] at e2
  obtain ⟨x3, s3, w3, e3, a3, l3, g3⟩ := Q2i bd (patR t p []).2 v w1 hw l1 (by simp only [List.length_nil] at hlen; omega) s1
  obtain ⟨s4, e4, g4⟩ := he (bd ++ (patR t p []).2) w3 s3 l3 (by simp only [List.length_append, List.length_nil] at hlen ⊢; omega)
  refine ⟨s4, ?_, (g1.trans g3).trans g4⟩
  revert e4
  generalize expR t e (bd ++ (patR t p []).2) = R
  intro e4
  simp only [Exp.enc, Exp.cells_eq, TBad.enc, TBad.cells] at e4
  simp only [go_sem, Nat.reduceAdd, Nat.reduceLeDiff, Case.enc, Case.cells_mk, Pat.cells_eq, Exp.cells_eq, List.map_cons, List.map_nil, List.cons_append, List.nil_append, e1, e2, Bool.not_true, e3, Qh a3, e4, TBad.enc, TBad.cells]
 ·rw [QS hz]
  rw [decide_eq_false hz] at e2
  refine ⟨s1, ?_, g1⟩
  simp only [go_sem, Nat.reduceAdd, Nat.reduceLeDiff, Case.enc, Case.cells_mk, Pat.cells_eq, Exp.cells_eq, List.map_cons, List.map_nil, List.cons_append, List.nil_append, e1, e2, Bool.not_false, TBad.enc, TBad.cells]
theorem Q7W (d : Dec) (hs : d.size < 2^26) (x9 : Slot) (w9 : AV) (h9 : x9.av = some w9) (hl9 : (Slot.val w9).list? = some ((d.funs.map Fun.name).map .str)) (bd : List Str) (v : AV) (hw : (Slot.val v).list? = some (bd.map .str)) (s0 : St) : ∀ (suf pre : List Fun) (s : St) (i : Nat), pre ++ suf = d.funs → i = pre.length → (∀ f ∈ suf, OneROK t tv f.case) → bd.length + d.funs.length + 2 * Fun.sizes suf < 2^27 + 2 * suf.length → Grew s0 s →
  Ret (Q2Q (.val tv) (.val v) (d.cells.map .val) zb x9 (.val (.int .i64 i)) s) s0 (funsR t suf (bd ++ d.funs.map Fun.name) (pre.map Fun.name)).enc
 | [], pre, s, i, hp, hi, H, hn, g => by
   subst hi
   have hend := Q9 (show pre = d.funs by simpa using hp)
   refine ⟨s, ?_, g⟩
   rw [Q7T]
   simp only [go_sem, Nat.reduceAdd, Nat.reduceLeDiff, Dec.cells_eq, List.map_cons, List.map_nil, List.length_map, hend, zb, funsR, TBad.enc, TBad.cells, TBad.zero]
 | .mk nm a c :: suf, pre, s, i, hp, hi, H, hn, g => by
   subst hi
   have hl : d.funs.length < 2^28 := by
    have := Fun.len_sizes d.funs
    cases d; simp only [Dec.size, Dec.funs] at *; omega
   have hplt : pre.length ≤ d.funs.length := by rw [← hp]; simp
   obtain ⟨f1, f2, f3⟩ := Q7 (x := .val (encS d.fb (d.funs.map Fun.enc))) (Qb _ _) hp (by omega) (Fun.cells_len (.mk nm a c)) (by decide)
   obtain ⟨y, w, es, ay, ly⟩ := QiP (QiH h9 hl9) (i := pre.length) (by rw [List.length_map]; exact hplt)
   rw [Zd] at es
   have htake : (d.funs.map Fun.name).take pre.length = pre.map Fun.name := by
    rw [← hp, List.map_append, List.take_left' (by simp)]
   rw [htake] at ly
   have eIn := Q5N nm (pre.map Fun.name) w ly (by rw [List.length_map]; omega) s
   simp only [Fun.sizes, Fun.size, List.length_cons] at hn
   have hsl := Fun.len_sizes suf
   simp only [funsR]
   rw [Q7T]
   cases c with
   | mk p e =>
   by_cases hm : nm ∈ pre.map Fun.name
   ·rw [decide_eq_true hm] at eIn ⊢
    rw [cond_true]
    refine ⟨s, ?_, g⟩
    simp only [go_sem, Nat.reduceAdd, Nat.reduceLeDiff, Dec.cells_eq, List.map_cons, List.map_nil, List.length_map, f1, f2, f3, Fun.cells_mk, es, Qh ay, eIn, zb, TBad.enc, TBad.cells, Case.cells_mk, Pat.cells_eq, Exp.cells_eq, List.cons_append, List.nil_append]
   ·rw [decide_eq_false hm] at eIn ⊢
    rw [cond_false]
    obtain ⟨x3, s3, w3, e3, a3, l3, g3⟩ := Q2i bd (d.funs.map Fun.name) v w9 hw hl9 (by rw [List.length_map]; omega) s
    obtain ⟨s4, e4, g4⟩ := H (.mk nm a (.mk p e)) List.mem_cons_self (bd ++ d.funs.map Fun.name) w3 s3 l3 (by simp only [List.length_append, List.length_map, Fun.case]; omega)
    simp only [Fun.case] at e4
    have e5 := QC (oneR t (.mk p e) (bd ++ d.funs.map Fun.name)) s4
    simp only [Case.enc, Case.cells_mk, Pat.cells_eq, Exp.cells_eq, List.cons_append, List.nil_append, TBad.enc, TBad.cells] at e4 e5
    by_cases hz : (oneR t (.mk p e) (bd ++ d.funs.map Fun.name)).kind = 0
    ·have ih := Q7W d hs x9 w9 h9 hl9 bd v hw s0 suf (pre ++ [.mk nm a (.mk p e)]) s4 (pre.length + 1) (by simpa using hp) (by simp) (fun r hr => H r (List.mem_cons_of_mem _ hr)) (by omega) ((g.trans g3).trans g4)
     rw [QY hz]
     rw [decide_eq_true hz] at e5
     have hpm : (pre ++ [Fun.mk nm a (.mk p e)]).map Fun.name = pre.map Fun.name ++ [nm] := by simp [Fun.name]
     rw [hpm] at ih
     revert ih
     generalize (funsR t suf (bd ++ d.funs.map Fun.name) (pre.map Fun.name ++ [nm])).enc = R
     intro ih
     simp only [go_sem, Nat.reduceAdd, Nat.reduceLeDiff, Dec.cells_eq, List.map_cons, List.map_nil, List.length_map, f1, f2, f3, Fun.cells_mk, es, Qh ay, Qh h9, Qh a3, eIn, e3, e4, e5, Bool.not_true, Case.cells_mk, Pat.cells_eq, Exp.cells_eq, List.cons_append, List.nil_append] at ih ⊢
     exact ih
    ·rw [QS hz]
     rw [decide_eq_false hz] at e5
     refine ⟨s4, ?_, (g.trans g3).trans g4⟩
     simp only [go_sem, Nat.reduceAdd, Nat.reduceLeDiff, Dec.cells_eq, List.map_cons, List.map_nil, List.length_map, f1, f2, f3, Fun.cells_mk, es, Qh ay, Qh h9, Qh a3, eIn, e3, e4, e5, Bool.not_false, Case.cells_mk, Pat.cells_eq, Exp.cells_eq, List.cons_append, List.nil_append, zb, TBad.enc, TBad.cells]
theorem QgW (h : TabFit t) (hv : (Slot.val tv).list? = some (t.map Place.enc)) (d : Dec) (hs : d.size < 2^26) (hval : d.kind = 1 → d.case ≠ []) (hnv : d.kind ≠ 1 → d.kind = 2 ∨ d.funs = []) (hE : ∀ c ∈ d.case, ExpROK t tv c.exp) (hC : ∀ f ∈ d.funs, OneROK t tv f.case) : DecROK t tv d := by
 intro bd v s hw hn
 by_cases h1 : d.kind = 1
 ·cases d with
  | mk k a nm pr l lb c cb f fb =>
  simp only [Dec.kind, Dec.case] at h1 hval hE
  subst h1
  cases c with
  | nil => exact absurd rfl (hval rfl)
  | cons q r =>
    cases q with
    | mk p e =>
    simp only [Dec.size, Case.sizes, Case.size] at hn
    have he := hE (.mk p e) List.mem_cons_self
    simp only [Case.exp] at he
    have hix : ixS 12 (.val (.sl ((Case.mk p e).enc :: r.map Case.enc))) (.val (.int .i64 0)) = some (.val (.cp (Case.mk p e).cells)) := Q58 (n := 0) (v := (Case.mk p e).enc) rfl rfl (Case.cells_len _) (by decide)
    obtain ⟨s1, w1, e1, l1, g1⟩ := Q5b t tv h hv _ p (Nat.le_refl _) [] .nils s rfl (by simp only [List.length_nil]; omega)
    have e2 := QC (patR t p []).1 s1
    simp only [Pat.enc, Pat.cells_eq, TBad.enc, TBad.cells] at e1 e2
    rw [Qav]
    simp only [decR, valR, decide_true, cond_true]
    by_cases hz : (patR t p []).1.kind = 0
    ·rw [QY hz]
     rw [decide_eq_true hz] at e2
     obtain ⟨s4, e4, g4⟩ := he bd v s1 hw (by omega)
     refine ⟨s4, ?_, g1.trans g4⟩
     revert e4
     generalize expR t e bd = R
     intro e4
     simp only [Exp.enc, Exp.cells_eq, TBad.enc, TBad.cells] at e4
     simp only [go_sem, Nat.reduceAdd, Nat.reduceLeDiff, Dec.enc, Dec.cells_mk, Case.cells_mk, Pat.cells_eq, Exp.cells_eq, List.map_cons, List.map_nil, Q0Z, hix, List.cons_append, List.nil_append, e1, e2, Bool.not_true, e4, TBad.enc, TBad.cells]
    ·rw [QS hz]
     rw [decide_eq_false hz] at e2
     refine ⟨s1, ?_, g1⟩
     simp only [go_sem, Nat.reduceAdd, Nat.reduceLeDiff, Dec.enc, Dec.cells_mk, Case.cells_mk, Pat.cells_eq, Exp.cells_eq, List.map_cons, List.map_nil, Q0Z, hix, List.cons_append, List.nil_append, e1, e2, Bool.not_false, TBad.enc, TBad.cells]
 ·have hnames : namesR d = d.funs.map Fun.name := by
   unfold namesR
   rw [decide_eq_false h1, Bool.false_and, cond_false]
   rcases hnv h1 with h2 | h2
   ·rw [decide_eq_true h2]; rfl
   ·rw [h2]; cases decide (d.kind = 2) <;> rfl
  obtain ⟨x1, s1, e1, a1⟩ := Q3J d hs s
  rw [hnames] at a1
  obtain ⟨nl, hav⟩ := a1.av
  have hfl : d.funs.length ≤ Fun.sizes d.funs ∧ Fun.sizes d.funs ≤ d.size := by
   have := Fun.len_sizes d.funs
   cases d; simp only [Dec.size, Dec.funs] at *; omega
  have e2 := Q7W t tv d hs x1 _ hav (Qb nl _) bd v hw s d.funs [] s1 0 rfl rfl hC (by omega) a1.grew
  rw [show ((0 : Nat) : Int) = 0 from rfl] at e2
  have hdec : decR t d bd = funsR t d.funs (bd ++ d.funs.map Fun.name) [] := by
   rw [← hnames]
   cases d; simp only [Dec.kind, Dec.funs] at *; simp only [decR, decide_eq_false h1, cond_false]
  rw [hdec, Qav]
  simp only [Dec.enc, Dec.cells_eq, List.map_cons, List.map_nil, zb] at e1 e2
  revert e2
  generalize (funsR t d.funs (bd ++ d.funs.map Fun.name) []).enc = R
  intro e2
  simp only [go_sem, Nat.reduceAdd, Nat.reduceLeDiff, Dec.enc, Dec.cells_eq, List.map_cons, List.map_nil, decide_eq_false h1, e1]
  exact e2
end
end Go.Proofs.YtinphnakebeloaaGreat
namespace Go.Proofs.YtinphnakebeloaaGreat
open Go Go.Am
set_option linter.unusedVariables false
set_option maxRecDepth 4000
section
variable (t : List Place) (tv : AV) (h : TabFit t) (hv : (Slot.val tv).list? = some (t.map Place.enc))
include h hv
theorem Qf3 : ∀ (m : Nat), (∀ e : Exp, e.size ≤ m → e.size < 2^26 → RN (nodesExp e) → ExpROK t tv e) ∧ (∀ c : Case, c.size ≤ m → c.size < 2^26 → RN (nodesCase c) → OneROK t tv c) ∧ ∀ (i : Bool) (d : Dec), d.size ≤ m → d.size < 2^26 → RN (nodesDec i d) → DecROK t tv d
 | 0 => ⟨fun e h => by cases e; simp only [Exp.size] at h; omega, fun c h => by cases c with | mk p e => cases e; simp only [Case.size, Exp.size] at h; omega, fun i d h => by cases d; simp only [Dec.size] at h; omega⟩
 | m + 1 => by
   obtain ⟨iE, iC, iD⟩ := Qf3 m
   have hE : ∀ e : Exp, e.size ≤ m + 1 → e.size < 2^26 → RN (nodesExp e) → ExpROK t tv e := fun e hm h' hr => by
    cases e with
    | mk k a nm n l lb c cb d db =>
    simp only [Exp.size] at hm h'
    simp only [nodesExp] at hr
    intro bd v s hw hn
    refine QgY t tv h hv _ (by simp only [Exp.size]; omega) (fun q hq => ?_) (fun q hq => ?_) (fun q hq => ?_) bd v s hw hn
    ·have := Dec.mem_sizes hq
     simp only [Exp.decs] at this hq
     exact iD true q (by omega) (by omega) (hr.t.l.decs q hq)
    ·have := Exp.mem_sizes hq
     simp only [Exp.kids] at this hq
     exact iE q (by omega) (by omega) (hr.t.r.l.exps q hq)
    ·have := Case.mem_sizes hq
     simp only [Exp.cases] at this hq
     exact iC q (by omega) (by omega) (hr.t.r.r.cases q hq)
   refine ⟨hE, fun c hm h' hr => ?_, fun i d hm h' hr => ?_⟩
   ·cases c with
    | mk p e =>
    simp only [Case.size] at hm h'
    simp only [nodesCase] at hr
    exact Qh0 t tv h hv p e (hE e (by omega) (by omega) hr.r)
   ·have hdv := Qi8 hr
    cases d with
    | mk k a nm p l lb c cb f fb =>
    simp only [Dec.size] at hm h'
    simp only [nodesDec] at hr
    refine QgW t tv h hv _ (by simp only [Dec.size]; omega) (fun hk hc => by
     have := hdv.1 hk
     rw [hc] at this; cases this) hdv.2 (fun q hq => ?_) (fun q hq => ?_)
    ·have := Case.mem_sizes hq
     simp only [Dec.case] at this hq
     have hq2 := hr.t.l.cases q hq
     cases q with
     | mk p e => simp only [Case.size] at this; simp only [nodesCase] at hq2; exact iE _ (by simp only [Case.exp]; omega) (by simp only [Case.exp]; omega) hq2.r
    ·have := Fun.mem_sizes hq
     simp only [Dec.funs] at this hq
     have hq2 := hr.t.r.l.funs q hq
     cases q with
     | mk s a c => simp only [Fun.size] at this; exact iC _ (by simp only [Fun.case]; omega) (by simp only [Fun.case]; omega) hq2
end
theorem Q7a (P : List Dec) (hP : P.length < 2^40) (y : AV) (hy : (Slot.val y).list? = some (P.map Dec.enc)) (hr : RN (nodesDecs false P)) (s0 : St) : ∀ (suf pre : List Dec) (t : List Place) (bd : List Str) (x6 x7 : Slot) (w6 w7 : AV) (s : St) (i : Nat), pre ++ suf = P → i = pre.length → (∀ d ∈ suf, DecFitR d) → x6.av = some w6 → (Slot.val w6).list? = some (t.map Place.enc) → x7.av = some w7 → (Slot.val w7).list? = some (bd.map .str) → t.length + consOf suf < 2^22 → (∀ p ∈ t, p.ty.size < 2^27) → bd.length + 2 * Dec.sizes suf < 2^26 → Grew s0 s →
  Ret (Q1G (.val y) zb x6 x7 (.val (.int .i64 i)) s) s0 (chkR suf t bd).enc
 | [], pre, t, bd, x6, x7, w6, w7, s, i, hp, hi, hF, h6, l6, h7, l7, hl, hw, hn, g => by
   subst hi
   have hend := Q9 (show pre = P by simpa using hp)
   refine ⟨s, ?_, g⟩
   rw [Q6b]
   simp only [go_sem, Nat.reduceAdd, Nat.reduceLeDiff, hy, List.length_map, hend, zb, chkR, TBad.enc, TBad.cells, TBad.zero]
 | d :: suf, pre, t, bd, x6, x7, w6, w7, s, i, hp, hi, hF, h6, l6, h7, l7, hl, hw, hn, g => by
   subst hi
   obtain ⟨f1, f2, f3⟩ := Q7 hy hp (by omega) (Dec.cells_len d) (by decide)
   have hf := hF d List.mem_cons_self
   simp only [consOf] at hl
   simp only [Dec.sizes] at hn
   have hfit : TabFit t := ⟨by omega, hw⟩
   obtain ⟨s1, e1, g1⟩ := (Qf3 t w6 hfit l6 d.size).2.2 false d (Nat.le_refl _) (by omega) (hr.decs d (by rw [← hp]; simp)) bd w7 s l7 (by omega)
   have e2 := QC (decR t d bd) s1
   simp only [Dec.enc, Dec.cells_eq, TBad.enc, TBad.cells] at e1 e2
   simp only [chkR]
   rw [Q6b]
   by_cases hz : (decR t d bd).kind = 0
   ·have hnl := QcN d
    obtain ⟨x3, s3, e3, a3⟩ := Q3J d (by omega) s1
    obtain ⟨nl, hav3⟩ := a3.av
    obtain ⟨x4, s4, w4, e4, a4, l4, g4⟩ := Q2i bd (namesR d) w7 _ l7 (Qb nl _) (by omega) s3
    obtain ⟨s5, w5, e5, l5, g5⟩ := Q8L t d w6 hfit l6 hf.1 (by omega) (by omega) hf.2 s4
    have hlen := Qg4 t d
    have ih := Q7a P hP y hy hr s0 suf (pre ++ [d]) (addR t d).1 (bd ++ namesR d) (.val w5) x4 w5 w4 s5 (pre.length + 1) (by simpa using hp) (by simp) (fun q hq => hF q (List.mem_cons_of_mem _ hq)) rfl l5 a4 l4 (by omega) (Qg3 t d hf hw) (by simp only [List.length_append]; omega) ((((g.trans g1).trans a3.grew).trans g4).trans g5)
    rw [QY hz]
    rw [decide_eq_true hz] at e2
    revert ih
    generalize (chkR suf (addR t d).1 (bd ++ namesR d)).enc = R
    intro ih
    simp only [Dec.enc, Dec.cells_eq, TBad.enc, TBad.cells] at e3 e5
    simp only [go_sem, Nat.reduceAdd, Nat.reduceLeDiff, hy, List.length_map, f1, f2, f3, Dec.cells_eq, Qh h6, Qh h7, Qh hav3, e1, e2, e3, e4, e5, Bool.not_true] at ih ⊢
    exact ih
   ·rw [QS hz]
    rw [decide_eq_false hz] at e2
    refine ⟨s1, ?_, g.trans g1⟩
    simp only [go_sem, Nat.reduceAdd, Nat.reduceLeDiff, hy, List.length_map, f1, f2, f3, Dec.cells_eq, Qh h6, Qh h7, e1, e2, Bool.not_false, zb, TBad.enc, TBad.cells]
theorem Qca (P : List Dec) (nl : Bool) (hs : Dec.sizes P < 2^21) (hok : ∀ n ∈ nodesDecs false P, n.ok) (hF : ∀ d ∈ P, rightN (nodesDecs false P) (deepDecs P 0) = .zero → DecFitR d) (s : St) : Ret (cw (.f Q3D) [encS nl (P.map Dec.enc)] s) s (checkR P).enc := by
 obtain ⟨s1, e1, g1⟩ := QbZ P nl s (by omega) hok
 have n1 := QC (rightN (nodesDecs false P) (deepDecs P 0)) s1
 unfold checkR
 rw [Qer]
 by_cases hz : (rightN (nodesDecs false P) (deepDecs P 0)).kind = 0
 ·have hr := Qde.1 hz
  rw [QY hz]
  rw [decide_eq_true hz] at n1
  obtain ⟨s2, w2, e2, hw2, g2⟩ := QfD P nl (fun d hd => hF d hd hr) hs s1
  have n2 := QC (ofR P startD).2 s2
  by_cases hz2 : (ofR P startD).2.kind = 0
  ·rw [QY hz2]
   rw [decide_eq_true hz2] at n2
   obtain ⟨x3, s3, e3, a3⟩ := Q78 s2
   obtain ⟨b, hav⟩ := a3.av
   have hl := Dec.len_sizes P
   have hc := Q5r P
   obtain ⟨s4, e4, g4⟩ := Q7a P (by omega) (encS nl (P.map Dec.enc)) (Qb _ _) (Q5m hr) s P [] startD [] x3 (.full []) _ (.sl []) s3 0 rfl rfl (fun d hd => hF d hd hr) hav (Qb b _) rfl rfl (by simp only [startD, List.length_cons, List.length_nil]; omega) Qdl (by simp only [List.length_nil]; omega) ((g1.trans g2).trans a3.grew)
   rw [show ((0 : Nat) : Int) = 0 from rfl] at e4
   refine ⟨s4, ?_, g4⟩
   revert e4
   generalize (chkR P startD []).enc = R
   intro e4
   revert e1 e2 n1 n2
   generalize rightN (nodesDecs false P) (deepDecs P 0) = B1
   generalize (ofR P startD).2 = B2
   intro e1 e2 n1 n2
   simp only [TBad.enc, TBad.cells, zb] at e1 e2 n1 n2 e4
   simp only [go_sem, Nat.reduceAdd, Nat.reduceLeDiff, e1, e2, e3, n1, n2, Bool.not_true, e4]
  ·rw [QS hz2]
   rw [decide_eq_false hz2] at n2
   refine ⟨s2, ?_, g1.trans g2⟩
   revert e1 e2 n1 n2
   generalize rightN (nodesDecs false P) (deepDecs P 0) = B1
   generalize (ofR P startD).2 = B2
   intro e1 e2 n1 n2
   simp only [TBad.enc, TBad.cells] at e1 e2 n1 n2
   simp only [go_sem, Nat.reduceAdd, Nat.reduceLeDiff, e1, e2, n1, n2, Bool.not_true, Bool.not_false, TBad.enc, TBad.cells]
 ·rw [QS hz]
  rw [decide_eq_false hz] at n1
  refine ⟨s1, ?_, g1⟩
  revert e1 n1
  generalize rightN (nodesDecs false P) (deepDecs P 0) = B1
  intro e1 n1
  simp only [TBad.enc, TBad.cells] at e1 n1
  simp only [go_sem, Nat.reduceAdd, Nat.reduceLeDiff, e1, n1, Bool.not_false, TBad.enc, TBad.cells]
end Go.Proofs.YtinphnakebeloaaGreat
namespace Go.Proofs.YtinphnakebeloaaGreat
open Go Go.Am
set_option linter.unusedVariables false
def TabEq (t u : List Place) : Prop := t.map ownP = u.map ownP
theorem QjM : ∀ t : Ty, ownTy (ownTy t) = ownTy t ∧ True := fun t => ⟨own1 t, trivial⟩
where
 own1 : ∀ t : Ty, ownTy (ownTy t) = ownTy t
 | .mk k n s l b => by simp only [ownTy, ownTys_own l]
 ownTys_own : ∀ l : List Ty, ownTys (ownTys l) = ownTys l
 | [] => rfl
 | t :: l => by simp only [ownTys, own1 t, ownTys_own l]
theorem QkK (p : Place) : ownP (ownP p) = ownP p := by simp only [ownP, (QjM p.ty).1]
theorem TabEq.own (t : List Place) : TabEq t (t.map ownP) := by
 unfold TabEq
 rw [List.map_map]
 exact List.map_congr_left fun p _ => (QkK p).symm
theorem TabEq.symm {t u : List Place} (h : TabEq t u) : TabEq u t := Eq.symm h
theorem TabEq.trans {t u w : List Place} (h : TabEq t u) (k : TabEq u w) : TabEq t w := Eq.trans h k
theorem TabEq.app {t u a b : List Place} (h : TabEq t u) (k : TabEq a b) : TabEq (t ++ a) (u ++ b) := by
 unfold TabEq at *
 rw [List.map_append, List.map_append, h, k]
theorem TabEq.map {α : Type} {t u : List Place} (h : TabEq t u) (f : Place → α) (hf : ∀ p, f (ownP p) = f p) : t.map f = u.map f := by
 have h1 : ∀ l : List Place, l.map f = (l.map ownP).map f := fun l => by
  rw [List.map_map]; exact List.map_congr_left fun p _ => (hf p).symm
 rw [h1 t, h1 u, h]
theorem TabEq.names {t u : List Place} (h : TabEq t u) : t.map Place.name = u.map Place.name := h.map _ fun _ => rfl
theorem TabEq.len {t u : List Place} (h : TabEq t u) : t.length = u.length := by
 have := congrArg List.length h
 simpa using this
def varsOf (nm : Str) : List (Str × Int) → Option Int
 | [] => none
 | p :: l => if p.1 = nm then some p.2 else varsOf nm l
def dv (t : List Place) : List (Str × Int) := t.map fun p => (p.data, p.vars)
theorem TabEq.dv {t u : List Place} (h : TabEq t u) : dv t = dv u := h.map _ fun _ => rfl
theorem QjE (nm : Str) : known0 nm = bif givenR nm then some (-1) else none := by
 unfold known0 givenR upd
 by_cases h1 : nm = sStar
 ·simp [h1]
 ·by_cases h2 : nm = sArrow
  ·simp [h2]
  ·by_cases h3 : nm = sRef
   ·simp [h3]
   ·by_cases h4 : nm = sExn
    ·simp [h4]
    ·by_cases h5 : nm = sUnit
     ·simp [h5]
     ·by_cases h6 : nm = sBool
      ·simp [h6]
      ·by_cases h7 : nm = sInt
       ·simp [h7]
       ·simp [h1, h2, h3, h4, h5, h6, h7]
theorem Qgx (g : Str → Option Int) (p : Place) (nm : Str) : knownStep g p nm = match g nm with | some v => some v | none => if p.data = nm then some p.vars else none := by
 unfold knownStep
 by_cases h : nm = p.data
 ·subst h
  cases hg : g p.data with
  | none => simp [upd]
  | some v => simp [hg]
 ·cases hg : g p.data with
  | none =>
    simp only []
    rw [Qhe _ _ h]
    cases g nm with
    | none => simp [Ne.symm h]
    | some v => rfl
  | some v =>
    simp only []
    cases g nm with
    | none => simp [Ne.symm h]
    | some v => rfl
theorem QcK (nm : Str) : ∀ (t : List Place) (g : Str → Option Int), t.foldl knownStep g nm = match g nm with | some v => some v | none => varsOf nm (dv t)
 | [], g => by simp only [List.foldl_nil, dv, List.map_nil, varsOf]; cases g nm <;> rfl
 | p :: t, g => by
   rw [List.foldl_cons, QcK nm t (knownStep g p), Qgx]
   cases g nm with
   | some v => rfl
   | none =>
     simp only [dv, List.map_cons, varsOf]
     by_cases h : p.data = nm
     ·simp [h]
     ·simp [h]
theorem Qao (t : List Place) (nm : Str) : knownD t nm = bif givenR nm then some (-1) else varsOf nm (dv t) := by
 rw [knownD, QcK, QjE]
 cases givenR nm <;> rfl
theorem Qcx (nm : Str) : ∀ t : List Place, (match dataR nm t with | [] => none | p :: _ => some p.vars) = varsOf nm (dv t)
 | [] => rfl
 | p :: t => by
   by_cases h : p.data = nm
   ·simp [dataR, dv, varsOf, h, ownP]
   ·have := Qcx nm t
    simp only [dataR, dv, List.map_cons, varsOf, h, decide_false, List.filter_cons, if_false] at this ⊢
    simpa using this
theorem Qjr (t : List Place) (nm : Str) : dtR t nm = bif givenR nm then (0, false) else match varsOf nm (dv t) with | none => (0, false) | some v => (v, true) := by
 unfold dtR
 cases givenR nm with
 | true => rfl
 | false =>
   rw [← Qcx]
   simp only [cond_false]
   cases dataR nm t <;> rfl
theorem QaP (t : List Place) : exns t = ((dv t).filter fun p => decide (p.1 = sExn)).length := by
 unfold exns dv
 rw [List.filter_map, List.length_map]; rfl
theorem Qdy {nm : Str} {v : Int} : ∀ {l : List (Str × Int)}, varsOf nm l = some v → ∃ p ∈ l, p.2 = v
 | [], h => by cases h
 | p :: l, h => by
   simp only [varsOf] at h
   split at h
   ·cases h; exact ⟨p, List.mem_cons_self, rfl⟩
   ·obtain ⟨q, hq, e⟩ := Qdy h; exact ⟨q, List.mem_cons_of_mem _ hq, e⟩
theorem QcI (t : List Place) (d : Dec) : ∀ (a b : List Ty), firstW t d (a ++ b) = if (firstW t d a).1 ≠ 0 then firstW t d a else firstW t d b
 | [], b => by simp [firstW]
 | u :: a, b => by
   simp only [List.cons_append, firstW, QcI t d a b]
   by_cases h : (wrongR t d u).1 = 0
   ·simp [h]
   ·simp [h]
def TyIs (t : Ty) : Prop := ∀ u ∈ preTy t, u.kind = 1 → u.args = [] ∧ 0 ≤ u.n
theorem QcT : ∀ {l : List Ty} {w u : Ty}, w ∈ l → u ∈ preTy w → u ∈ preTys l
 | x :: l, w, u, h, hu => by
   simp only [preTys, List.mem_append]
   rcases List.mem_cons.1 h with rfl | h
   ·exact .inl hu
   ·exact .inr (QcT h hu)
structure WH (u : List Place) (d : Dec) (g : Str → Option Int) (vars : Int) : Prop where
 hk : ∀ v : Ty, v.kind = 1 → 0 ≤ v.n → (wrongR u d v = if v.n ≥ vars then (16, []) else (0, []))
 hg : ∀ v : Ty, v.kind ≠ 1 → wrongR u d v = match g v.name with | none => (8, v.name) | some m => if m ≥ 0 ∧ m ≠ (v.args.length : Int) then (19, v.name) else (0, [])
mutual
theorem Qhj {u : List Place} {d : Dec} {g : Str → Option Int} {vars : Int} (H : WH u d g vars) : ∀ v : Ty, TyIs v → wrongD g vars v = firstW u d (preTy v)
 | .mk k n nm l b, hT => by
   have h0 := hT (.mk k n nm l b) (by simp only [preTy]; exact List.mem_cons_self)
   simp only [Ty.kind, Ty.args, Ty.n] at h0
   simp only [preTy, wrongD]
   by_cases h1 : k = 1
   ·obtain ⟨rfl, hn⟩ := h0 h1
    subst h1
    have := H.hk (.mk 1 n nm [] b) rfl hn
    simp only [preTys, firstW, this, Ty.n, if_true]
    by_cases hv : n ≥ vars
    ·simp [hv]
    ·simp [hv]
   ·have := H.hg (.mk k n nm l b) h1
    have hl := Qfg H l (fun w hw u hu => hT u (by simp only [preTy]; exact List.mem_cons_of_mem _ (QcT hw hu)))
    simp only [Ty.name, Ty.args] at this
    simp only [firstW, this, h1, if_false]
    cases g nm with
    | none => simp
    | some m =>
      simp only
      by_cases hm : m ≥ 0 ∧ m ≠ (l.length : Int)
      ·simp [hm]
      ·simp only [hm, if_false, ne_eq, not_true_eq_false]
       exact hl
theorem Qfg {u : List Place} {d : Dec} {g : Str → Option Int} {vars : Int} (H : WH u d g vars) : ∀ l : List Ty, (∀ v ∈ l, TyIs v) → wrongsD g vars l = firstW u d (preTys l)
 | [], _ => by simp only [wrongsD, preTys, firstW]
 | v :: l, hT => by
   simp only [wrongsD, preTys, QcI, Qhj H v (hT v List.mem_cons_self), Qfg H l fun w hw => hT w (List.mem_cons_of_mem _ hw)]
end
theorem QiU (n : Nat) : (varsTy n).map ownTy = varsTy n := by
 unfold varsTy
 rw [List.map_map]
 exact List.map_congr_left fun i _ => rfl
theorem QcU : ∀ l : List Nat, (chTys (toPut []) (l.map fun i : Nat => tvar (i : Int)) ()).1 = l.map fun i : Nat => tvar (i : Int)
 | [] => rfl
 | i :: l => by
   have h : chTy (toPut []) (tvar (i : Int)) () = (tvar (i : Int), ()) := by
    simp only [tvar, chTy, decide_true, cond_true, toPut, List.length_nil]
    rw [if_neg (by omega)]
   simp only [List.map_cons, chTys, h, QcU l]
theorem Qgw (d : Dec) (hk : d.kind = 3 ∨ d.kind = 4) : (headD d).1 = resR d := by
 unfold headD resR
 rcases hk with h | h
 ·simp only [h, Int.reduceEq, decide_false, decide_true, cond_false, cond_true, ofTy, QiU]
 ·simp only [h, decide_true, cond_true]
theorem QlT (d : Dec) (hk : d.kind = 3 ∨ d.kind = 4) : putTy (resR d) [] = resR d := by
 unfold resR putTy
 rcases hk with h | h
 ·simp only [h, Int.reduceEq, decide_false, decide_true, cond_false, cond_true, chTy, varsTy, QcU]
 ·simp only [h, decide_true, cond_true, ofTy, List.map_nil, chTy, Int.reduceEq, decide_false, cond_false, chTys]
theorem QeQ (nm : Str) : ∀ l : List Place, (findD nm l).isSome = decide (nm ∈ l.map Place.name)
 | [] => rfl
 | p :: l => by
   simp only [findD, List.map_cons, List.mem_cons]
   by_cases h : p.name = nm
   ·simp [h]
   ·rw [if_neg h, QeQ nm l]
    simp [Ne.symm h]
structure DecOK (d : Dec) : Prop where
 kind : d.kind = 1 ∨ d.kind = 2 ∨ d.kind = 3 ∨ d.kind = 4
 data : d.kind = 3 → 0 ≤ d.params
 exn : d.kind = 4 → d.cons.length = 1
 arg : ∀ c ∈ d.cons, c.has = true → TyIs c.arg
theorem QiY {t u : List Place} (h : TabEq t u) (hv : ∀ p ∈ t, 0 ≤ p.vars) (d : Dec) (g : Str → Option Int) (vars : Int) (hd : d.kind = 3 ∧ vars = d.params ∧ 0 ≤ d.params ∧ g = upd (knownD t) d.name d.params ∧ givenR d.name = false ∨ d.kind = 4 ∧ vars = 0 ∧ g = knownD t) (c : Con) (hT : TyIs c.arg) : wrongD g vars c.arg = firstW u d (preTy c.arg) := by
 have dpos : ∀ nm m, varsOf nm (dv t) = some m → 0 ≤ m := fun nm m e => by
  obtain ⟨p, hp, rfl⟩ := Qdy e
  obtain ⟨q, hq, rfl⟩ := List.mem_map.1 hp
  exact hv q hq
 refine Qhj ⟨fun v h1 hn => ?_, fun v h1 => ?_⟩ c.arg hT
 ·unfold wrongR
  rw [decide_eq_true h1, cond_true]
  rcases hd with ⟨k3, rfl, -, -, -⟩ | ⟨k4, rfl, -⟩
  ·rw [decide_eq_true k3]
   by_cases hh : v.n ≥ d.params
   ·simp [hh]
   ·simp [hh]
  ·rw [decide_eq_false (by omega)]
   simp [hn]
 ·unfold wrongR wrongR1
  rw [decide_eq_false h1, cond_false, Qjr, ← h.dv]
  rcases hd with ⟨k3, rfl, hp, rfl, hgn⟩ | ⟨k4, rfl, rfl⟩
  ·rw [decide_eq_true k3, Bool.true_and]
   by_cases hnm : v.name = d.name
   ·rw [hnm, Qhf, hgn, decide_eq_true rfl]
    simp only [cond_false, cond_true, Bool.not_true]
    by_cases hl : (v.args.length : Int) = d.params
    ·have : ¬ (d.params ≥ 0 ∧ d.params ≠ (v.args.length : Int)) := fun hx => hx.2 hl.symm
     simp only [hl, this, decide_true, Bool.not_true, cond_false, if_false]
     simp
    ·have : d.params ≥ 0 ∧ d.params ≠ (v.args.length : Int) := ⟨hp, fun e => hl e.symm⟩
     simp only [decide_eq_false hl, Bool.not_false, cond_true, this, if_true]
     simp [hp, this.2]
   ·rw [Qhe _ _ hnm, Qao, decide_eq_false hnm, cond_false]
    cases hgv : givenR v.name with
    | true => simp
    | false =>
      simp only [cond_false]
      cases hm : varsOf v.name (dv t) with
      | none => simp
      | some m =>
        have := dpos _ _ hm
        by_cases hl : (v.args.length : Int) = m
        ·simp [hl]
        ·have hx : ¬ m = (v.args.length : Int) := fun e => hl e.symm
         simp [hl, hx, this]
  ·rw [decide_eq_false (by omega), Bool.false_and, cond_false, Qao]
   cases hgv : givenR v.name with
   | true => simp
   | false =>
     simp only [cond_false]
     cases hm : varsOf v.name (dv t) with
     | none => simp
     | some m =>
       have := dpos _ _ hm
       by_cases hl : (v.args.length : Int) = m
       ·simp [hl]
       ·have hx : ¬ m = (v.args.length : Int) := fun e => hl e.symm
        simp [hl, hx, this]
theorem QdT {t u : List Place} (h : TabEq t u) (hv : ∀ p ∈ t, 0 ≤ p.vars) (d : Dec) (hk : d.kind = 3 ∨ d.kind = 4) (g : Str → Option Int) (vars : Int) (data : Str) (of_ : Int) (tag0 : Int)
  (hd : d.kind = 3 ∧ vars = d.params ∧ 0 ≤ d.params ∧ g = upd (knownD t) d.name d.params ∧ givenR d.name = false ∧ data = d.name ∧ of_ = d.cons.length ∧ tag0 = 0 ∨ d.kind = 4 ∧ vars = 0 ∧ g = knownD t ∧ data = sExn ∧ of_ = 0 ∧ tag0 = (exns t : Nat)) :
  ∀ (l : List Con) (i : Nat) (out outR : List Place), (∀ c ∈ l, c.has = true → TyIs c.arg) → (d.kind = 4 → i + l.length ≤ 1) → TabEq out outR → (∀ p ∈ out, 0 ≤ p.vars) →
    (consD d.kind g (resR d) vars data of_ l (out.map Place.name) (tag0 + i) out).2 = (consR u d l i outR).2 ∧ TabEq (consD d.kind g (resR d) vars data of_ l (out.map Place.name) (tag0 + i) out).1 (consR u d l i outR).1 ∧ ∀ p ∈ (consD d.kind g (resR d) vars data of_ l (out.map Place.name) (tag0 + i) out).1, 0 ≤ p.vars
 | [], i, out, outR, hT, h4, ho, hvo => ⟨rfl, ho, hvo⟩
 | c :: l, i, out, outR, hT, h4, ho, hvo => by
   have hex : exns u = exns t := by rw [QaP, QaP, h.dv]
   have hx0 : d.kind = 4 → i = 0 := fun hh => by have := h4 hh; simp only [List.length_cons] at this; omega
   have hb : (conBad d.kind g vars (tag0 + i) (out.map Place.name) c).1 = (conBadR u d outR c).1 ∧ ((conBad d.kind g vars (tag0 + i) (out.map Place.name) c).1 ≠ 0 → conBad d.kind g vars (tag0 + i) (out.map Place.name) c = conBadR u d outR c) := by
    unfold conBad conBadR
    rw [QeQ, ← ho.names]
    by_cases hm : c.name ∈ out.map Place.name
    ·simp [hm]
    ·rw [if_neg hm, decide_eq_false hm]
     simp only [Bool.false_eq_true, if_false]
     have htag : (decide (d.kind = 4) && decide (tag0 + (i : Int) > 1023)) = (decide (d.kind = 4) && decide (((exns u : Nat) : Int) > 1023)) := by
      by_cases hh : d.kind = 4
      ·rcases hd with ⟨k3, -⟩ | ⟨-, -, -, -, -, rfl⟩
       ·omega
       ·rw [hx0 hh, hex]; simp
      ·simp [hh]
     rw [htag]
     cases (decide (d.kind = 4) && decide (((exns u : Nat) : Int) > 1023)) with
     | true => exact ⟨rfl, fun _ => rfl⟩
     | false =>
       simp only [cond_false]
       cases hc : c.has with
       | false => exact ⟨rfl, fun hx => absurd rfl hx⟩
       | true =>
         simp only [cond_true]
         have hw := QiY h hv d g vars (hd.imp (fun x => ⟨x.1, x.2.1, x.2.2.1, x.2.2.2.1, x.2.2.2.2.1⟩) fun x => ⟨x.1, x.2.1, x.2.2.1⟩) c (hT c List.mem_cons_self hc)
         rw [hw]
         by_cases hz : (firstW u d (preTy c.arg)).1 = 0
         ·rw [if_neg (by simpa using hz)]
          exact ⟨hz.symm, fun hx => absurd rfl hx⟩
         ·rw [if_pos (by simpa using hz)]
          exact ⟨rfl, fun _ => rfl⟩
   simp only [consD, consR]
   by_cases hz : (conBad d.kind g vars (tag0 + i) (out.map Place.name) c).1 = 0
   ·rw [if_neg (by simpa using hz), if_neg (by rw [← hb.1]; simpa using hz)]
    have hp : conPlace (resR d) vars data (tag0 + i) of_ c = placeR u d i c := by
     unfold conPlace placeR
     rw [QlT d hk]
     rcases hd with ⟨k3, rfl, -, -, -, rfl, rfl, rfl⟩ | ⟨k4, rfl, -, rfl, rfl, rfl⟩
     ·simp [k3]
     ·rw [hx0 k4, hex]; simp [k4]
    have hpv : 0 ≤ (placeR u d i c).vars := by
     rw [← hp]
     simp only [conPlace]
     rcases hd with ⟨k3, rfl, hh, -⟩ | ⟨k4, rfl, -⟩
     ·exact hh
     ·exact Int.le_refl _
    have ih := QdT h hv d hk g vars data of_ tag0 hd l (i + 1) (out ++ [placeR u d i c]) (outR ++ [placeR u d i c]) (fun c hc => hT c (List.mem_cons_of_mem _ hc)) (fun hh => by have := h4 hh; simp only [List.length_cons] at this; omega) (ho.app rfl) (fun p hp' => by
     rcases List.mem_append.1 hp' with hp' | hp'
     ·exact hvo p hp'
     ·simp only [List.mem_singleton] at hp'; subst hp'; exact hpv)
    have e1 : tag0 + (i : Int) + 1 = tag0 + ((i + 1 : Nat) : Int) := by omega
    have e2 : out.map Place.name ++ [c.name] = (out ++ [placeR u d i c]).map Place.name := by rw [List.map_append]; rfl
    rw [hp, e1, e2]
    exact ih
   ·rw [if_pos (by simpa using hz), if_pos (by rw [← hb.1]; simpa using hz), hb.2 hz]
    exact ⟨rfl, rfl, by simp⟩
theorem Qjd {t u : List Place} (h : TabEq t u) (hv : ∀ p ∈ t, 0 ≤ p.vars) (d : Dec) (hd : DecOK d) : (addD t d).2 = (addR u d).2 ∧ TabEq (addD t d).1 (addR u d).1 ∧ ∀ p ∈ (addD t d).1, 0 ≤ p.vars := by
 unfold addD addR
 have hex : exns u = exns t := by rw [QaP, QaP, h.dv]
 by_cases h3 : d.kind = 3
 ·rw [decide_eq_true h3]
  have hp := hd.data h3
  simp only [cond_true, Bool.not_true, Bool.false_and, cond_false, Bool.true_and]
  have hkn : (knownD t d.name).isSome = ((dtR u d.name).2 || givenR d.name) := by
   rw [Qao, Qjr, ← h.dv]
   cases givenR d.name with
   | true => rfl
   | false =>
     simp only [cond_false, Bool.or_false]
     cases varsOf d.name (dv t) <;> rfl
  rw [hkn]
  cases hx : ((dtR u d.name).2 || givenR d.name) with
  | true => exact ⟨rfl, rfl, by simp⟩
  | false =>
    simp only [Bool.or_eq_false_iff] at hx
    simp only [cond_false]
    have := QdT h hv d (.inl h3) (upd (knownD t) d.name d.params) d.params d.name d.cons.length 0 (.inl ⟨h3, rfl, hp, rfl, hx.2, rfl, rfl, rfl⟩) d.cons 0 t (u.map ownP) hd.arg (fun hh => by omega) (h.trans (TabEq.own u)) hv
    rw [Qgw d (.inl h3)]
    have hh2 : (headD d).2 = d.params := by simp [headD, h3]
    rw [hh2]
    simp only [h3] at this
    exact this
 ·rw [decide_eq_false h3]
  simp only [cond_false, Bool.not_false, Bool.true_and, Bool.false_and]
  by_cases h4 : d.kind = 4
  ·rw [decide_eq_true h4]
   simp only [cond_true, Bool.not_true, cond_false]
   have := QdT h hv d (.inr h4) (knownD t) 0 sExn 0 (exns t : Nat) (.inr ⟨h4, rfl, rfl, rfl, rfl, rfl⟩) d.cons 0 t (u.map ownP) hd.arg (fun _ => by have := hd.exn h4; omega) (h.trans (TabEq.own u)) hv
   rw [Qgw d (.inr h4)]
   have hh2 : (headD d).2 = 0 := by simp [headD, h4]
   rw [hh2]
   simp only [h4, Int.natCast_zero, Int.add_zero] at this
   exact this
  ·rw [decide_eq_false h4]
   simp only [cond_false, Bool.not_false, cond_true]
   exact ⟨trivial, h.trans (TabEq.own u), hv⟩
theorem Ql9 : ∀ (P : List Dec) (t u : List Place), TabEq t u → (∀ p ∈ t, 0 ≤ p.vars) → (∀ d ∈ P, DecOK d) → (ofD P t).2 = (ofR P u).2 ∧ TabEq (ofD P t).1 (ofR P u).1 ∧ ∀ p ∈ (ofD P t).1, 0 ≤ p.vars
 | [], t, u, h, hv, _ => ⟨rfl, h, hv⟩
 | d :: P, t, u, h, hv, hd => by
   obtain ⟨h1, h2, h3⟩ := Qjd h hv d (hd d List.mem_cons_self)
   simp only [ofD, ofR, ← h1]
   split
   ·exact ⟨rfl, rfl, by simp⟩
   ·exact Ql9 P _ _ h2 h3 fun q hq => hd q (List.mem_cons_of_mem _ hq)
end Go.Proofs.YtinphnakebeloaaGreat
namespace Go.Proofs.YtinphnakebeloaaGreat
open Go Go.Am
set_option linter.unusedVariables false
def opt (b : TBad) : Option TBad := bif decide (b.kind = 0) then none else some b
theorem Q4e {b : TBad} (h : b.kind = 0) : opt b = none := by unfold opt; rw [decide_eq_true h]; rfl
theorem Z6 {b : TBad} (h : b.kind ≠ 0) : opt b = some b := by unfold opt; rw [decide_eq_false h]; rfl
theorem Q6T {a b : TBad} {x : Option TBad} {f : Option TBad → Option TBad} (hx : x = opt a) (hs : ∀ c, f (some c) = some c) (hn : f none = opt b) : f x = opt (thenB a b) := by
 subst hx
 by_cases h : a.kind = 0
 ·rw [Q4e h, QY h, hn]
 ·rw [Z6 h, QS h, hs, Z6 h]
def SameM (a b : List Str) : Prop := ∀ x, x ∈ a ↔ x ∈ b
theorem SameM.dec {a b : List Str} (h : SameM a b) (x : Str) : decide (x ∈ a) = decide (x ∈ b) := decide_eq_decide.2 (h x)
theorem SameM.app {a b c d : List Str} (h : SameM a b) (k : SameM c d) : SameM (a ++ c) (d ++ b) := fun x => by
 simp only [List.mem_append, h x, k x]; exact Or.comm
theorem QeX (x : Str) : ∀ (l acc : List Str), x ∈ l.foldl addS acc ↔ x ∈ acc ∨ x ∈ l
 | [], acc => by simp
 | k :: l, acc => by
   rw [List.foldl_cons, QeX x l]
   have : x ∈ addS acc k ↔ x ∈ acc ∨ x = k := by
    unfold addS
    split
    ·rename_i h
     constructor
     ·exact .inl
     ·rintro (h1 | rfl)
      ·exact h1
      ·exact h
    ·simp
   rw [this, List.mem_cons]
   constructor
   ·rintro ((h | h) | h)
    ·exact .inl h
    ·exact .inr (.inl h)
    ·exact .inr (.inr h)
   ·rintro (h | h | h)
    ·exact .inl (.inl h)
    ·exact .inl (.inr h)
    ·exact .inr h
theorem QiL {d : Dec} (h : d.kind = 1 → d.case.length = 1) : SameM (namesD d) (namesR d) := fun x => by
 unfold namesD namesOf namesR
 rw [QeX]
 by_cases h1 : d.kind = 1
 ·have := h h1
  simp [h1, this]
 ·simp [h1]
section
variable (t : List Place)
mutual
theorem Q9l (b : TBad) : ∀ (p : Pat) (had : List Str), (scPat (chkI t) p (had, some b)).2 = some b
 | .mk k a nm n l nl, had => by
   simp only [scPat]
   cases (decide (k = 2) || decide (k = 6)) with
   | true =>
     simp only [cond_true]
     have : (if nm ∈ had then (chkI t).fail 9 a nm (some b) else some b) = some b := by split <;> rfl
     rw [this]; exact Q1c b l _
   | false =>
     simp only [cond_false]
     cases decide (k = 4) with
     | true =>
       simp only [cond_true]
       have : (chkI t).con nm a l.length (some b) = some b := by
        simp only [chkI, conO]
        cases findD nm t with
        | none => rfl
        | some p => simp only; split <;> rfl
       rw [this]; exact Q1c b l _
     | false => exact Q1c b l _
theorem Q1c (b : TBad) : ∀ (l : List Pat) (had : List Str), (scPats (chkI t) l (had, some b)).2 = some b
 | [], had => rfl
 | p :: l, had => by
   simp only [scPats]
   have h := Q9l b p had
   rw [show scPat (chkI t) p (had, some b) = ((scPat (chkI t) p (had, some b)).1, some b) from Prod.ext rfl h]
   exact Q1c b l _
end
theorem Q4p (b : TBad) (e : Exp) (bd : List Str) : scExp (chkI t) e bd (some b) = some b := by cases e; simp only [scExp]; rfl
theorem Q3q (b : TBad) : ∀ (l : List Exp) (bd : List Str), scExps (chkI t) l bd (some b) = some b
 | [], _ => rfl
 | e :: l, bd => by simp only [scExps, Q4p, Q3q b l]
theorem Q8o (b : TBad) (c : Case) (bd : List Str) : scCase (chkI t) c bd (some b) = some b := by
 cases c; simp only [scCase, Q9l, Q4p]
theorem Q1L (b : TBad) : ∀ (l : List Case) (bd : List Str), scCases (chkI t) l bd (some b) = some b
 | [], _ => rfl
 | e :: l, bd => by simp only [scCases, Q8o, Q1L b l]
theorem Qbs (b : TBad) : ∀ (l : List Case) (bd : List Str), scVals (chkI t) l bd (some b) = some b
 | [], _ => rfl
 | .mk p e :: l, bd => by simp only [scVals, Q9l, Q4p, Qbs b l]
theorem Q5o (b : TBad) : ∀ (l : List Fun) (bd had : List Str), scFuns (chkI t) l bd had (some b) = some b
 | [], _, _ => rfl
 | .mk nm a c :: l, bd, had => by
   have : (if nm ∈ had then (chkI t).fail 9 a nm (some b) else some b) = some b := by split <;> rfl
   simp only [scFuns, this, Q8o, Q5o b l]
theorem Qdg (b : TBad) (d : Dec) (bd : List Str) : (scDec (chkI t) d bd (some b)).2 = some b := by
 cases d with
 | mk k a nm p l lb c cb f fb =>
 simp only [scDec]
 cases decide (k = 1) with
 | true => simp only [cond_true, Qbs]
 | false =>
   cases decide (k = 2) with
   | true => simp only [cond_true, cond_false, Q5o]
   | false => rfl
theorem Q5n (b : TBad) : ∀ (l : List Dec) (bd : List Str), (scDecs (chkI t) l bd (some b)).2 = some b
 | [], _ => rfl
 | d :: l, bd => by simp only [scDecs, Qdg, Q5n b l]
end
def FH (t u : List Place) : Prop := ∀ nm, (findD nm t).map Place.has = (findD nm u).map Place.has
theorem Qgb (t u : List Place) (hf : FH t u) (nm : Str) (a : Int) (k : Nat) (hk : k ≤ 1) : conO t nm a k none = opt (conR u nm a k) := by
 have h := hf nm
 unfold conO conR
 cases h1 : findD nm t with
 | none =>
   rw [h1] at h
   cases h2 : findD nm u with
   | none => rfl
   | some q => rw [h2] at h; cases h
 | some p =>
   rw [h1] at h
   cases h2 : findD nm u with
   | none => rw [h2] at h; cases h
   | some q =>
     rw [h2] at h
     have hh : p.has = q.has := by simpa using h
     have hd : decide ((k : Int) > 0) = decide ((k : Int) = 1) := by rw [decide_eq_decide]; omega
     simp only [hh, hd]
     split
     ·rfl
     ·rfl
mutual
theorem QdR {t u : List Place} (hf : FH t u) : ∀ (p : Pat) (had : List Str), RN (nodesPat p) → (scPat (chkI t) p (had, none)).2 = opt (patR u p had).1 ∧ ((patR u p had).1.kind = 0 → (scPat (chkI t) p (had, none)).1 = had ++ varsPat p ∧ (patR u p had).2 = had ++ varsPat p)
 | .mk k a nm n l nl, had, hr => by
   have hw : wrongPatB (.mk k a nm n l nl) = 0 := by simp only [nodesPat] at hr; exact hr _ List.mem_cons_self
   have hl : RN (nodesPats l) := by simp only [nodesPat] at hr; exact hr.t
   simp only [scPat, patR]
   have hvo : varsPat (.mk k a nm n l nl) = (bif decide (k = 2) || decide (k = 6) then [nm] else []) ++ varsPats l := by simp only [varsPat, varOf, Pat.kind, Pat.name]; rfl
   rw [hvo]
   cases hx : (decide (k = 2) || decide (k = 6)) with
   | true =>
     simp only [cond_true, Bool.true_and]
     have h4 : decide (k = 4) = false := by
      simp only [Bool.or_eq_true, decide_eq_true_eq] at hx
      simp only [decide_eq_false_iff_not]; omega
     by_cases hm : nm ∈ had
     ·rw [decide_eq_true hm, cond_true, if_pos hm]
      refine ⟨?_, fun h => absurd h (by simp)⟩
      rw [Z6 (by simp)]
      exact Q1c t ⟨9, a, nm⟩ l _
     ·rw [decide_eq_false hm, cond_false, if_neg hm, h4, Bool.false_and, cond_false]
      have ih := Q99 hf l (had ++ [nm]) hl
      refine ⟨ih.1, fun h => ?_⟩
      obtain ⟨h1, h2⟩ := ih.2 h
      rw [h1, h2]; simp
   | false =>
     simp only [cond_false, Bool.false_and, List.nil_append]
     by_cases h4 : k = 4
     ·have hk := QlR hw h4
      simp only [Pat.kids] at hk
      rw [decide_eq_true h4, cond_true, Bool.true_and]
      have hc : (chkI t).con nm a l.length none = opt (conR u nm a l.length) := Qgb t u hf nm a l.length hk
      rw [hc]
      by_cases hz : (conR u nm a l.length).kind = 0
      ·rw [Q4e hz, decide_eq_true hz, Bool.not_true, cond_false]
       exact Q99 hf l had hl
      ·rw [Z6 hz, decide_eq_false hz, Bool.not_false, cond_true]
       exact ⟨by rw [Z6 hz]; exact Q1c t _ l _, fun h => absurd h hz⟩
     ·rw [decide_eq_false h4, cond_false, Bool.false_and, cond_false]
      exact Q99 hf l had hl
theorem Q99 {t u : List Place} (hf : FH t u) : ∀ (l : List Pat) (had : List Str), RN (nodesPats l) → (scPats (chkI t) l (had, none)).2 = opt (patsR u l had).1 ∧ ((patsR u l had).1.kind = 0 → (scPats (chkI t) l (had, none)).1 = had ++ varsPats l ∧ (patsR u l had).2 = had ++ varsPats l)
 | [], had, _ => by simp only [scPats, patsR, varsPats, List.append_nil]; exact ⟨rfl, fun _ => ⟨trivial, trivial⟩⟩
 | p :: l, had, hr => by
   simp only [nodesPats] at hr
   obtain ⟨h1, h2⟩ := QdR hf p had hr.l
   simp only [scPats, patsR, varsPats]
   by_cases hz : (patR u p had).1.kind = 0
   ·obtain ⟨h3, h4⟩ := h2 hz
    rw [Q4e hz] at h1
    have ih := Q99 hf l (had ++ varsPat p) hr.r
    rw [show scPat (chkI t) p (had, none) = (had ++ varsPat p, none) from Prod.ext h3 h1, decide_eq_true hz, cond_true, h4]
    rw [← List.append_assoc]
    exact ih
   ·rw [Z6 hz] at h1
    rw [show scPat (chkI t) p (had, none) = ((scPat (chkI t) p (had, none)).1, some (patR u p had).1) from Prod.ext rfl h1, decide_eq_false hz, cond_false]
    exact ⟨by rw [Z6 hz]; exact Q1c t _ l _, fun h => absurd h hz⟩
end
mutual
theorem QdQ {t u : List Place} (hf : FH t u) : ∀ (e : Exp) (bd bdR : List Str), SameM bd bdR → RN (nodesExp e) → scExp (chkI t) e bd none = opt (expR u e bdR)
 | .mk k a nm n l lb c cb d db, bd, bdR, hb, hr => by
   have hw : wrongExpB (.mk k a nm n l lb c cb d db) = 0 := by simp only [nodesExp] at hr; exact hr _ List.mem_cons_self
   have hrd : RN (nodesDecs true d) := by simp only [nodesExp] at hr; exact hr.t.l
   have hrl : RN (nodesExps l) := by simp only [nodesExp] at hr; exact hr.t.r.l
   have hrc : RN (nodesCases c) := by simp only [nodesExp] at hr; exact hr.t.r.r
   obtain ⟨h1, h2⟩ := Qg8 hf d bd bdR hb hrd
   have hrest : ∀ st, st = none → scCases (chkI t) c (scDecs (chkI t) d bd st).1 (scExps (chkI t) l (scDecs (chkI t) d bd st).1 (scDecs (chkI t) d bd st).2) = opt (thenB (decsR u d bdR) (thenB (expsR u l (bdR ++ d.flatMap namesR)) (onesR u c (bdR ++ d.flatMap namesR)))) := fun st hst => by
    subst hst
    by_cases hz : (decsR u d bdR).kind = 0
    ·have hb2 := h2 hz
     rw [h1, Q4e hz, QY hz]
     exact Q6T (f := fun x => scCases (chkI t) c (scDecs (chkI t) d bd none).1 x) (Qg9 hf l _ _ hb2 hrl) (fun b => Q1L t b c _) (QeH hf c _ _ hb2 hrc)
    ·rw [h1, Z6 hz, QS hz, Q3q, Q1L, Z6 hz]
   simp only [scExp, expR, scVar]
   rw [show (chkI t).stop none = false from rfl, cond_false]
   by_cases hk2 : k = 2
   ·rw [decide_eq_true hk2, cond_true, Bool.true_and]
    by_cases hm : nm ∈ bdR
    ·rw [if_pos ((hb nm).2 hm), decide_eq_true hm, Bool.not_true, cond_false, decide_eq_false (by omega), Bool.false_and, cond_false]
     exact hrest none rfl
    ·rw [if_neg (fun h => hm ((hb nm).1 h)), decide_eq_false hm, Bool.not_false, cond_true]
     have : (chkI t).free nm a none = some ⟨16, a, nm⟩ := rfl
     rw [this, Q5n, Q3q, Q1L, Z6 (by simp)]
   ·rw [decide_eq_false hk2, cond_false, Bool.false_and, cond_false]
    by_cases hk3 : k = 3
    ·have hkk := QlG hw hk3
     simp only [Exp.kids] at hkk
     rw [decide_eq_true hk3, cond_true, Bool.true_and]
     have hc : (chkI t).con nm a l.length none = opt (conR u nm a l.length) := Qgb t u hf nm a l.length hkk
     rw [hc]
     by_cases hz : (conR u nm a l.length).kind = 0
     ·rw [Q4e hz, decide_eq_true hz, Bool.not_true, cond_false]
      exact hrest none rfl
     ·rw [Z6 hz, decide_eq_false hz, Bool.not_false, cond_true, Q5n, Q3q, Q1L, Z6 hz]
    ·rw [decide_eq_false hk3, cond_false, Bool.false_and, cond_false]
     exact hrest none rfl
theorem Qg9 {t u : List Place} (hf : FH t u) : ∀ (l : List Exp) (bd bdR : List Str), SameM bd bdR → RN (nodesExps l) → scExps (chkI t) l bd none = opt (expsR u l bdR)
 | [], _, _, _, _ => by simp only [scExps, expsR]; rfl
 | e :: l, bd, bdR, hb, hr => by
   simp only [nodesExps] at hr
   simp only [scExps, expsR]
   exact Q6T (f := scExps (chkI t) l bd) (QdQ hf e bd bdR hb hr.l) (fun b => Q3q t b l bd) (Qg9 hf l bd bdR hb hr.r)
theorem Qg7 {t u : List Place} (hf : FH t u) : ∀ (c : Case) (bd bdR : List Str), SameM bd bdR → RN (nodesCase c) → scCase (chkI t) c bd none = opt (oneR u c bdR)
 | .mk p e, bd, bdR, hb, hr => by
   simp only [nodesCase] at hr
   obtain ⟨h1, h2⟩ := QdR hf p [] hr.l
   simp only [scCase, oneR]
   by_cases hz : (patR u p []).1.kind = 0
   ·obtain ⟨h3, h4⟩ := h2 hz
    rw [List.nil_append] at h4
    rw [h1, Q4e hz, QY hz, h4]
    exact QdQ hf e _ _ (fun x => by simp only [List.mem_append, hb x]; exact Or.comm) hr.r
   ·rw [h1, Z6 hz, QS hz, Q4p, Z6 hz]
theorem QeH {t u : List Place} (hf : FH t u) : ∀ (l : List Case) (bd bdR : List Str), SameM bd bdR → RN (nodesCases l) → scCases (chkI t) l bd none = opt (onesR u l bdR)
 | [], _, _, _, _ => by simp only [scCases, onesR]; rfl
 | c :: l, bd, bdR, hb, hr => by
   simp only [nodesCases] at hr
   simp only [scCases, onesR]
   exact Q6T (f := scCases (chkI t) l bd) (Qg7 hf c bd bdR hb hr.l) (fun b => Q1L t b l bd) (QeH hf l bd bdR hb hr.r)
theorem Qg8 {t u : List Place} (hf : FH t u) : ∀ (l : List Dec) (bd bdR : List Str), SameM bd bdR → RN (nodesDecs true l) → (scDecs (chkI t) l bd none).2 = opt (decsR u l bdR) ∧ ((decsR u l bdR).kind = 0 → SameM (scDecs (chkI t) l bd none).1 (bdR ++ l.flatMap namesR))
 | [], bd, bdR, hb, _ => by simp only [scDecs, decsR, List.flatMap_nil, List.append_nil]; exact ⟨rfl, fun _ => hb⟩
 | d :: l, bd, bdR, hb, hr => by
   simp only [nodesDecs] at hr
   obtain ⟨h1, h2⟩ := Qi6 hf true d bd bdR hb hr.l
   simp only [scDecs, decsR, List.flatMap_cons]
   rw [← List.append_assoc]
   by_cases hz : (decR u d bdR).kind = 0
   ·rw [Q4e hz] at h1
    rw [h1, QY hz]
    exact Qg8 hf l _ _ h2 hr.r
   ·rw [Z6 hz] at h1
    rw [h1, QS hz]
    exact ⟨by rw [Z6 hz]; exact Q5n t _ l _, fun h => absurd h hz⟩
theorem Qi6 {t u : List Place} (hf : FH t u) : ∀ (i : Bool) (d : Dec) (bd bdR : List Str), SameM bd bdR → RN (nodesDec i d) → (scDec (chkI t) d bd none).2 = opt (decR u d bdR) ∧ SameM (scDec (chkI t) d bd none).1 (bdR ++ namesR d)
 | i, .mk k a s p l lb c cb f fb, bd, bdR, hb, hr => by
   have hdv := Qi8 hr
   have hrc : RN (nodesCases c) := by simp only [nodesDec] at hr; exact hr.t.l
   have hrf : RN (nodesFuns f) := by simp only [nodesDec] at hr; exact hr.t.r.l
   have hn := QiL (d := .mk k a s p l lb c cb f fb) hdv.1
   have hn' : SameM (namesOf k c f) (namesR (.mk k a s p l lb c cb f fb)) := hn
   have hbn : SameM (namesOf k c f ++ bd) (bdR ++ namesR (.mk k a s p l lb c cb f fb)) := hn'.app hb
   simp only [Dec.kind, Dec.case, Dec.funs] at hdv
   simp only [scDec, decR]
   by_cases h1 : k = 1
   ·rw [decide_eq_true h1]
    simp only [cond_true]
    exact ⟨Qkj hf c bd bdR hb hrc (hdv.1 h1), hbn⟩
   ·rw [decide_eq_false h1]
    simp only [cond_false]
    by_cases h2 : k = 2
    ·rw [decide_eq_true h2]
     simp only [cond_true]
     exact ⟨Qga hf f _ _ [] hbn hrf, hbn⟩
    ·rw [decide_eq_false h2]
     simp only [cond_false]
     have hf0 : f = [] := (hdv.2 h1).resolve_left h2
     subst hf0
     refine ⟨by simp only [funsR]; rfl, ?_⟩
     have : namesR (.mk k a s p l lb c cb [] fb) = [] := by simp [namesR, Dec.kind, h1, h2]
     rw [this, List.append_nil]
     exact hb
theorem Qkj {t u : List Place} (hf : FH t u) : ∀ (c : List Case) (bd bdR : List Str), SameM bd bdR → RN (nodesCases c) → c.length = 1 → scVals (chkI t) c bd none = opt (valR u c bdR)
 | [], _, _, _, _, h => by cases h
 | .mk p e :: [], bd, bdR, hb, hr, _ => by
   simp only [nodesCases, nodesCase, List.append_nil] at hr
   obtain ⟨h1, h2⟩ := QdR hf p [] hr.l
   simp only [scVals, valR]
   exact Q6T (f := fun x => scExp (chkI t) e bd x) h1 (fun b => Q4p t b e bd) (QdQ hf e bd bdR hb hr.r)
 | _ :: _ :: _, _, _, _, _, h => by simp only [List.length_cons] at h; omega
theorem Qga {t u : List Place} (hf : FH t u) : ∀ (l : List Fun) (bd bdR had : List Str), SameM bd bdR → RN (nodesFuns l) → scFuns (chkI t) l bd had none = opt (funsR u l bdR had)
 | [], _, _, _, _, _ => by simp only [scFuns, funsR]; rfl
 | .mk nm a c :: l, bd, bdR, had, hb, hr => by
   simp only [nodesFuns, nodesFun] at hr
   simp only [scFuns, funsR]
   by_cases hm : nm ∈ had
   ·rw [if_pos hm, decide_eq_true hm, cond_true]
    have : (chkI t).fail 9 a nm none = some ⟨9, a, nm⟩ := rfl
    rw [this, Q8o, Q5o, Z6 (by simp)]
   ·rw [if_neg hm, decide_eq_false hm, cond_false]
    exact Q6T (f := scFuns (chkI t) l bd (had ++ [nm])) (Qg7 hf c bd bdR hb hr.l.t) (fun b => Q5o t b l bd _) (Qga hf l bd bdR _ hb hr.r)
end
theorem Qkt {t u : List Place} (h : TabEq t u) : FH t u := fun nm => by
 have h1 : ∀ l : List Place, (findD nm l).map Place.has = (findD nm (l.map ownP)).map Place.has := fun l => by
  induction l with
  | nil => rfl
  | cons p l ih =>
    simp only [List.map_cons, findD]
    by_cases hn : p.name = nm
    ·have : (ownP p).name = nm := hn
     rw [if_pos hn, if_pos this]; rfl
    ·have : ¬ (ownP p).name = nm := hn
     rw [if_neg hn, if_neg this]; exact ih
 rw [h1 t, h1 u, h]
theorem Qab (b : TBad) : ∀ (P : List Dec) (t : List Place) (bd : List Str), (chkDecs P t bd (some b)).2 = some b
 | [], _, _ => rfl
 | d :: P, t, bd => by simp only [chkDecs, Qdg, Qab b P]
theorem Qcv : ∀ (P : List Dec) (t u : List Place) (bd bdR : List Str), TabEq t u → (∀ p ∈ t, 0 ≤ p.vars) → (∀ d ∈ P, DecOK d) → SameM bd bdR → RN (nodesDecs false P) → (chkDecs P t bd none).2 = opt (chkR P u bdR)
 | [], _, _, _, _, _, _, _, _, _ => by simp only [chkDecs, chkR]; rfl
 | d :: P, t, u, bd, bdR, h, hv, hd, hb, hr => by
   simp only [nodesDecs] at hr
   obtain ⟨h1, h2⟩ := Qi6 (Qkt h) false d bd bdR hb hr.l
   obtain ⟨h3, h4, h5⟩ := Qjd h hv d (hd d List.mem_cons_self)
   simp only [chkDecs, chkR]
   by_cases hz : (decR u d bdR).kind = 0
   ·rw [h1, Q4e hz, QY hz]
    exact Qcv P _ _ _ _ h4 h5 (fun q hq => hd q (List.mem_cons_of_mem _ hq)) h2 hr.r
   ·rw [h1, Z6 hz, QS hz, Qab, Z6 hz]
theorem QgI : ∀ (P : List Dec) (t : List Place), (ofD P t).2.kind = 0 → (ofD P t).2 = .zero
 | [], _, _ => rfl
 | d :: P, t, h => by
   simp only [ofD] at h ⊢
   split at h
   ·rename_i hx; exact absurd h hx
   ·rename_i hx; rw [if_neg hx]; exact QgI P _ h
theorem Qkl {i : Bool} {d : Dec} (hr : RN (nodesDec i d)) : DecOK d := by
 have hw : wrongDecB d i = 0 := by cases d; simp only [nodesDec] at hr; exact hr _ List.mem_cons_self
 have D := Qcy hw
 refine ⟨D.kind, fun h => (D.data h).2.2.1, fun h => by have := (D.exn h).2.2; omega, fun c hc hh u hu hk => ?_⟩
 have hmem : ∀ (l : List Con), c ∈ l → .ty u c.at_ ∈ nodesCons l := fun l => by
  induction l with
  | nil => intro h; cases h
  | cons x l ih =>
    intro h
    simp only [nodesCons, List.mem_append]
    rcases List.mem_cons.1 h with rfl | h
    ·left
     simp only [nodesCon, hh, cond_true]
     refine List.mem_cons_of_mem _ ?_
     rw [Q5l]
     exact List.mem_map.2 ⟨u, hu, rfl⟩
    ·exact .inr (ih h)
 have hn : .ty u c.at_ ∈ nodesDec i d := by
  cases d with
  | mk k a s p l lb cs cb f fb =>
  simp only [nodesDec]
  exact List.mem_cons_of_mem _ (List.mem_append_right _ (List.mem_append_right _ (hmem l hc)))
 have ht := Qrz (t := u) (hr _ hn)
 exact ⟨(ht.2.1 hk).1, (ht.2.1 hk).2.1⟩
theorem Qbu : ∀ p ∈ startD, 0 ≤ p.vars := by
 intro p hp
 simp only [startD, List.mem_cons, List.not_mem_nil, or_false] at hp
 rcases hp with rfl | rfl | rfl | rfl | rfl | rfl <;> exact Int.le_refl _
theorem QeG : ∀ (P : List Dec) (u : List Place) (bd : List Str), (chkR P u bd).kind = 0 → chkR P u bd = .zero
 | [], _, _, _ => by simp only [chkR]
 | d :: P, u, bd, h => by
   simp only [chkR] at h ⊢
   by_cases hz : (decR u d bd).kind = 0
   ·rw [QY hz] at h ⊢; exact QeG P _ _ h
   ·rw [QS hz] at h; exact absurd h hz
theorem Qki (P : List Dec) : checkD P = checkR P := by
 unfold checkD checkR
 by_cases hz : rightN (nodesDecs false P) (deepDecs P 0) = .zero
 ·have hr : RN (nodesDecs false P) := Q5m hz
  have hd : ∀ d ∈ P, DecOK d := fun d hd => Qkl (hr.decs d hd)
  obtain ⟨h1, h2, h3⟩ := Ql9 P startD startD rfl Qbu hd
  rw [if_neg (by simpa using hz), QY (by rw [hz]; rfl)]
  by_cases ho : (ofD P startD).2 = .zero
  ·rw [if_neg (by simpa using ho), QY (by rw [← h1, ho]; rfl), Qcv P startD startD [] [] rfl Qbu hd (fun _ => Iff.rfl) hr]
   by_cases hc : (chkR P startD []).kind = 0
   ·rw [Q4e hc, QeG P startD [] hc]; rfl
   ·rw [Z6 hc]; rfl
  ·rw [if_pos (by simpa using ho), QS (fun h => ho (QgI P startD (by rw [h1]; exact h))), h1]
 ·rw [if_pos (by simpa using hz), QS (fun h => hz (Qde.1 h))]
end Go.Proofs.YtinphnakebeloaaGreat
namespace Go.Proofs.YtinphnakebeloaaGreat
open Go Go.Am
set_option linter.unusedVariables false
set_option maxRecDepth 4000
theorem QiA {P : List Dec} (hs : Dec.sizes P < 2^24) (h : rightN (nodesDecs false P) (deepDecs P 0) = .zero) : ∀ d ∈ P, DecFitR d := by
 intro d hd
 have hw : wrongDecB d false = 0 := Q5m h _ (Q5M hd)
 have D := Qcy hw
 have hsz := Dec.mem_sizes hd
 constructor
 ·by_cases h3 : d.kind = 3
  ·have := (D.data h3).2.2.2.1; omega
  ·have := (D.bare h3).1; omega
 ·intro c hc
  have h1 := Con.mem_sizes hc
  have h2 : Con.sizes d.cons ≤ d.size := by
   cases d; simp only [Dec.size, Dec.cons]; omega
  simp only [Con.size] at h1
  omega
theorem Q8m (P : List Dec) (nl : Bool) (hs : Dec.sizes P < 2^21) (hok : ∀ n ∈ nodesDecs false P, n.ok) (s : St) : Ret (cw (.f Q2u) [encS nl (P.map Dec.enc)] s) s (.bool true) := by
 obtain ⟨s1, e1, g1⟩ := Qe3 P nl (by omega) s
 rw [Q9e]
 cases hf : fewB P with
 | false =>
   obtain ⟨s2, e2, g2⟩ := Q6P s1
   rw [hf] at e1
   refine ⟨s2, ?_, g1.trans g2⟩
   simp only [go_sem, e1, e2, Bool.not_false]
 | true =>
   rw [hf] at e1
   obtain ⟨s2, e2, g2⟩ := QbJ P nl (by omega) hok s1
   obtain ⟨s3, e3, g3⟩ := Qca P nl hs hok (fun d hd hr => QiA (by omega) hr d hd) s2
   obtain ⟨s4, e4, g4⟩ := Q6P s3
   rw [Qki] at e2
   refine ⟨s4, ?_, ((g1.trans g2).trans g3).trans g4⟩
   revert e2 e3
   generalize checkR P = b
   intro e2 e3
   obtain ⟨k, a, nm⟩ := b
   simp only [TBad.enc, TBad.cells] at e2 e3
   simp only [go_sem, e1, e2, e3, e4, Bool.not_true]
theorem Q8C {k0 : Nat} (P : List Dec) (b : Bool) (g : Dec.sizes P ≤ k0 ∧ ∀ i, ∀ nd ∈ nodesDecs i P, nd.ok) (hb : k0 + 0 ≤ 1048576) : Ret (cw (.f Q2u) [encS b (P.map Dec.enc)] st0) st0 (.bool true) :=
 Q8m P b (by omega) (g.2 false) st0
end Go.Proofs.YtinphnakebeloaaGreat