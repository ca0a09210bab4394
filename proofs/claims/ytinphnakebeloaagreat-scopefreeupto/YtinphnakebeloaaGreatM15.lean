/- A part of the proof: SRef12e, PDeclEq, PScope4, PScope5, SRef12f, LScopeFree. -/
import Derived.Test.YtinphnakebeloaaGreatM13
import Derived.Test.YtinphnakebeloaaGreatM14
set_option linter.unusedVariables false
set_option linter.unusedSimpArgs false
namespace Go.Proofs.YtinphnakebeloaaGreat
open Go Go.Am
set_option linter.unusedVariables false
set_option maxRecDepth 4000
mutual
theorem Q0T : ∀ (e : Exp) (bd found : List Str), (freeR e bd found).length ≤ found.length + e.size
 | .mk k a nm n l lb c cb d db, bd, found => by
   have hv : (bif decide (k = 2) && !decide (nm ∈ bd) && !decide (nm ∈ found) then found ++ [nm] else found).length ≤ found.length + 1 := by
    cases (decide (k = 2) && !decide (nm ∈ bd) && !decide (nm ∈ found)) <;> simp
   simp only [freeR, Exp.size]
   generalize (bif decide (k = 2) && !decide (nm ∈ bd) && !decide (nm ∈ found) then found ++ [nm] else found) = F at hv
   have h1 := Q9l d bd F
   have h2 := Q9m l (freeDecs d bd F).1 (freeDecs d bd F).2
   have h3 := Q8B c (freeDecs d bd F).1 (freeExps l (freeDecs d bd F).1 (freeDecs d bd F).2)
   omega
theorem Q9m : ∀ (l : List Exp) (bd found : List Str), (freeExps l bd found).length ≤ found.length + Exp.sizes l
 | [], _, _ => by simp [freeExps]
 | e :: l, bd, found => by
   have h1 := Q0T e bd found
   have h2 := Q9m l bd (freeR e bd found)
   simp only [freeExps, Exp.sizes]; omega
theorem Q8B : ∀ (l : List Case) (bd found : List Str), (freeCases l bd found).length ≤ found.length + Case.sizes l
 | [], _, _ => by simp [freeCases]
 | .mk p e :: l, bd, found => by
   have h1 := Q0T e (bd ++ varsPat p) found
   have h2 := Q8B l bd (freeR e (bd ++ varsPat p) found)
   simp only [freeCases, Case.sizes, Case.size]; omega
theorem Q9l : ∀ (l : List Dec) (bd found : List Str), (freeDecs l bd found).2.length ≤ found.length + Dec.sizes l
 | [], _, _ => by simp [freeDecs]
 | .mk k a s p l lb c cb f fb :: r, bd, found => by
   have hv : (bif decide (k = 1) then freeVal c bd found else found).length ≤ found.length + Case.sizes c := by
    have := Qg0 c bd found
    cases decide (k = 1) <;> simp <;> omega
   simp only [freeDecs, Dec.sizes, Dec.size]
   generalize (bif decide (k = 1) then freeVal c bd found else found) = F at hv
   have h1 := Q9n f (bd ++ namesR (.mk k a s p l lb c cb f fb)) F
   have h2 := Q9l r (bd ++ namesR (.mk k a s p l lb c cb f fb)) (freeFuns f (bd ++ namesR (.mk k a s p l lb c cb f fb)) F)
   omega
theorem Qg0 : ∀ (l : List Case) (bd found : List Str), (freeVal l bd found).length ≤ found.length + Case.sizes l
 | [], _, _ => by simp [freeVal]
 | .mk p e :: l, bd, found => by
   have h1 := Q0T e bd found
   simp only [freeVal, Case.sizes, Case.size]; omega
theorem Q9n : ∀ (l : List Fun) (bd found : List Str), (freeFuns l bd found).length ≤ found.length + Fun.sizes l
 | [], _, _ => by simp [freeFuns]
 | .mk s a c :: l, bd, found => by
   have h1 := QeU c bd found
   have h2 := Q9n l bd (freeCase c bd found)
   simp only [freeFuns, Fun.sizes, Fun.size]; omega
theorem QeU : ∀ (c : Case) (bd found : List Str), (freeCase c bd found).length ≤ found.length + c.size
 | .mk p e, bd, found => by
   have h1 := Q0T e (bd ++ varsPat p) found
   simp only [freeCase, Case.size]; omega
end
def FreeOK (e : Exp) : Prop := ∀ (bd found : List Str) (v w : AV) (s : St), (Slot.val v).list? = some (bd.map .str) → (Slot.val w).list? = some (found.map .str) → bd.length + found.length + 4 * e.size < 2^27 → RetL (cw (.f QR) [e.enc, v, w] s) s (freeR e bd found)
def FreeDecOK (d : Dec) : Prop := (d.kind = 1 → d.case ≠ []) ∧ (∀ c ∈ d.case, FreeOK c.exp) ∧ ∀ f ∈ d.funs, FreeOK f.case.exp
theorem Q6Q (e : Exp) (hs : e.size < 2^26) (bd : List Str) (x1 : Slot) (v1 : AV) (hx : x1.av = some v1) (hw : (Slot.val v1).list? = some (bd.map .str)) (s0 : St) : ∀ (suf pre : List Case) (found : List Str) (x2 : Slot) (v2 : AV) (s : St) (i : Nat), pre ++ suf = e.cases → i = pre.length → (∀ q ∈ suf, FreeOK q.exp) → x2.av = some v2 → (Slot.val v2).list? = some (found.map .str) → bd.length + found.length + 4 * Case.sizes suf < 2^27 → Grew s0 s →
  RetL (Q22 x1 x2 (e.cells.map .val) (.val (.int .i64 i)) s) s0 (freeCases suf bd found)
 | [], pre, found, x2, v2, s, i, hp, hi, H, h2, l2, hn, g => by
   subst hi
   have hend := Q8 (show pre = e.cases by simpa using hp)
   refine ⟨x2, s, v2, ?_, h2, l2, g⟩
   rw [Q6j]
   simp only [go_sem, Nat.reduceAdd, Nat.reduceLeDiff, Exp.cells_eq, List.map_cons, List.map_nil, List.length_map, hend]
 | .mk p b :: suf, pre, found, x2, v2, s, i, hp, hi, H, h2, l2, hn, g => by
   subst hi
   have hl : e.cases.length < 2^28 := by
    have := Case.len_sizes e.cases
    cases e; simp only [Exp.size, Exp.cases] at *; omega
   obtain ⟨f1, f2, f3⟩ := Q6 (x := .val (encS e.cb (e.cases.map Case.enc))) (Q9 _ _) hp (by omega) (Case.cells_len (.mk p b)) (by decide)
   simp only [Case.sizes, Case.size] at hn
   have hvl := Q0e p
   obtain ⟨x3, s3, e3, a3⟩ := Q2h _ p s (Nat.le_refl _) (by omega)
   obtain ⟨nl, hav3⟩ := a3.av
   obtain ⟨x4, s4, w4, e4, a4, l4, g4⟩ := Q3a bd (varsPat p) v1 _ hw (Q9 nl _) (by omega) s3
   obtain ⟨x5, s5, w5, e5, a5, l5, g5⟩ := H (.mk p b) List.mem_cons_self (bd ++ varsPat p) found w4 v2 s4 l4 l2 (by simp only [List.length_append, Case.exp]; omega)
   simp only [Case.exp] at e5 l5
   have hfl := Q0T b (bd ++ varsPat p) found
   have ih := Q6Q e hs bd x1 v1 hx hw s0 suf (pre ++ [.mk p b]) (freeR b (bd ++ varsPat p) found) x5 w5 s5 (pre.length + 1) (by simpa using hp) (by simp) (fun r hr => H r (List.mem_cons_of_mem _ hr)) a5 l5 (by omega) (((g.trans a3.grew).trans g4).trans g5)
   simp only [freeCases]
   rw [Q6j]
   revert ih
   generalize freeCases suf bd (freeR b (bd ++ varsPat p) found) = R
   intro ih
   simp only [Pat.enc, Pat.cells_eq] at e3
   simp only [Exp.enc, Exp.cells_eq] at e5
   simp only [go_sem, Nat.reduceAdd, Nat.reduceLeDiff, Exp.cells_eq, List.map_cons, List.map_nil, List.length_map, f1, f2, f3, Case.cells_mk, Pat.cells_eq, List.cons_append, List.nil_append, Qh hx, Qh hav3, Qh a4, Qh h2, e3, e4, e5] at ih ⊢
   exact ih
theorem Q7z (e : Exp) (hs : e.size < 2^26) (bd : List Str) (x1 : Slot) (v1 : AV) (hx : x1.av = some v1) (hw : (Slot.val v1).list? = some (bd.map .str)) (hC : ∀ q ∈ e.cases, FreeOK q.exp) (s0 : St) : ∀ (suf pre : List Exp) (found : List Str) (x2 : Slot) (v2 : AV) (s : St) (i : Nat), pre ++ suf = e.kids → i = pre.length → (∀ q ∈ suf, FreeOK q) → x2.av = some v2 → (Slot.val v2).list? = some (found.map .str) → bd.length + found.length + 4 * (Exp.sizes suf + Case.sizes e.cases) < 2^27 → Grew s0 s →
  RetL (Q21 x1 x2 (e.cells.map .val) (.val (.int .i64 i)) s) s0 (freeCases e.cases bd (freeExps suf bd found))
 | [], pre, found, x2, v2, s, i, hp, hi, H, h2, l2, hn, g => by
   subst hi
   have hend := Q8 (show pre = e.kids by simpa using hp)
   simp only [Exp.sizes] at hn
   have e1 := Q6Q e hs bd x1 v1 hx hw s0 e.cases [] found x2 v2 s 0 rfl rfl hC h2 l2 (by omega) g
   rw [show ((0 : Nat) : Int) = 0 from rfl] at e1
   rw [Q6i]
   simp only [freeExps]
   revert e1
   generalize freeCases e.cases bd found = R
   intro e1
   simp only [Exp.cells_eq, List.map_cons, List.map_nil] at e1
   simp only [go_sem, Nat.reduceAdd, Nat.reduceLeDiff, Exp.cells_eq, List.map_cons, List.map_nil, List.length_map, hend]
   exact e1
 | q :: suf, pre, found, x2, v2, s, i, hp, hi, H, h2, l2, hn, g => by
   subst hi
   have hl : e.kids.length < 2^28 := by
    have := Exp.len_sizes e.kids
    cases e; simp only [Exp.size, Exp.kids] at *; omega
   obtain ⟨f1, f2, f3⟩ := Q6 (x := .val (encS e.kb (e.kids.map Exp.enc))) (Q9 _ _) hp (by omega) (Exp.cells_len q) (by decide)
   simp only [Exp.sizes] at hn
   obtain ⟨x5, s5, w5, e5, a5, l5, g5⟩ := H q List.mem_cons_self bd found v1 v2 s hw l2 (by omega)
   have hfl := Q0T q bd found
   have ih := Q7z e hs bd x1 v1 hx hw hC s0 suf (pre ++ [q]) (freeR q bd found) x5 w5 s5 (pre.length + 1) (by simpa using hp) (by simp) (fun r hr => H r (List.mem_cons_of_mem _ hr)) a5 l5 (by omega) (g.trans g5)
   simp only [freeExps]
   rw [Q6i]
   revert ih
   generalize freeCases e.cases bd (freeExps suf bd (freeR q bd found)) = R
   intro ih
   simp only [Exp.enc, Exp.cells_eq] at e5
   simp only [go_sem, Nat.reduceAdd, Nat.reduceLeDiff, Exp.cells_eq, List.map_cons, List.map_nil, List.length_map, f1, f2, f3, Qh hx, Qh h2, e5] at ih ⊢
   exact ih
theorem Qg4 (d : Dec) : (namesR d).length ≤ Case.sizes d.case + d.funs.length := by
 have h1 := Q54 d.case
 unfold namesR
 cases (decide (d.kind = 1) && decide ((d.case.length : Int) = 1)) with
 | true => simp only [cond_true]; omega
 | false => cases decide (d.kind = 2) <;> simp
theorem Q7A (e : Exp) (d : Dec) (j : Nat) (hj : IntKind.i64.wrap ((j : Int) + 1) = ((j + 1 : Nat) : Int)) (hl : d.funs.length < 2^28) (T : List Str → List Str) (bd : List Str) (x0 x1 : Slot) (v1 : AV) (hx : x1.av = some v1) (hw : (Slot.val v1).list? = some (bd.map .str)) (s0 : St) (B : Nat)
  (K : ∀ (x2 : Slot) (v2 : AV) (found : List Str) (s : St), x2.av = some v2 → (Slot.val v2).list? = some (found.map .str) → found.length < B → Grew s0 s → RetL (Q0I x1 x2 (e.cells.map .val) (.val (.int .i64 ((j + 1 : Nat) : Int))) s) s0 (T found)) : ∀ (suf pre : List Fun) (found : List Str) (x2 : Slot) (v2 : AV) (s : St) (i : Nat), pre ++ suf = d.funs → i = pre.length → (∀ q ∈ suf, FreeOK q.case.exp) → x2.av = some v2 → (Slot.val v2).list? = some (found.map .str) → bd.length + found.length + 4 * Fun.sizes suf < 2^27 + 3 * suf.length → found.length + Fun.sizes suf < B → Grew s0 s →
  RetL (Q20 x1 x2 (e.cells.map .val) (.val (.int .i64 j)) (d.cells.map .val) (.val (.int .i64 i)) s) s0 (T (freeFuns suf bd found))
 | [], pre, found, x2, v2, s, i, hp, hi, H, h2, l2, hn, hB, g => by
   subst hi
   have hend := Q8 (show pre = d.funs by simpa using hp)
   have k := K x2 v2 found s h2 l2 (by omega) g
   simp only [freeFuns]
   rw [Q6h]
   revert k
   generalize T found = R
   intro k
   simp only [go_sem, Nat.reduceAdd, Nat.reduceLeDiff, Dec.cells_eq, List.map_cons, List.map_nil, List.length_map, hend, hj]
   exact k
 | .mk nm a (.mk p b) :: suf, pre, found, x2, v2, s, i, hp, hi, H, h2, l2, hn, hB, g => by
   subst hi
   obtain ⟨f1, f2, f3⟩ := Q6 (x := .val (encS d.fb (d.funs.map Fun.enc))) (Q9 _ _) hp (by omega) (Fun.cells_len (.mk nm a (.mk p b))) (by decide)
   simp only [Fun.sizes, Fun.size, Case.size, List.length_cons] at hn hB
   have hsl := Fun.len_sizes suf
   have hvl := Q0e p
   obtain ⟨x3, s3, e3, a3⟩ := Q2h _ p s (Nat.le_refl _) (by omega)
   obtain ⟨nl, hav3⟩ := a3.av
   obtain ⟨x4, s4, w4, e4, a4, l4, g4⟩ := Q3a bd (varsPat p) v1 _ hw (Q9 nl _) (by omega) s3
   obtain ⟨x5, s5, w5, e5, a5, l5, g5⟩ := H (.mk nm a (.mk p b)) List.mem_cons_self (bd ++ varsPat p) found w4 v2 s4 l4 l2 (by simp only [List.length_append, Case.exp, Fun.case]; omega)
   simp only [Case.exp, Fun.case] at e5 l5
   have hfl := Q0T b (bd ++ varsPat p) found
   have ih := Q7A e d j hj hl T bd x0 x1 v1 hx hw s0 B K suf (pre ++ [.mk nm a (.mk p b)]) (freeR b (bd ++ varsPat p) found) x5 w5 s5 (pre.length + 1) (by simpa using hp) (by simp) (fun r hr => H r (List.mem_cons_of_mem _ hr)) a5 l5 (by omega) (by omega) (((g.trans a3.grew).trans g4).trans g5)
   simp only [freeFuns, freeCase]
   rw [Q6h]
   revert ih
   generalize T (freeFuns suf bd (freeR b (bd ++ varsPat p) found)) = R
   intro ih
   simp only [Pat.enc, Pat.cells_eq] at e3
   simp only [Exp.enc, Exp.cells_eq] at e5
   simp only [go_sem, Nat.reduceAdd, Nat.reduceLeDiff, Dec.cells_eq, Exp.cells_eq, List.map_cons, List.map_nil, List.length_map, f1, f2, f3, Fun.cells_mk, Case.cells_mk, Pat.cells_eq, List.cons_append, List.nil_append, Qh hx, Qh hav3, Qh a4, Qh h2, e3, e4, e5] at ih ⊢
   exact ih
theorem QdY (q : Dec) (r : List Dec) (bd found : List Str) : freeDecs (q :: r) bd found = freeDecs r (bd ++ namesR q) (freeFuns q.funs (bd ++ namesR q) (bif decide (q.kind = 1) then freeVal q.case bd found else found)) := by cases q; rfl
def freeTail (e : Exp) (r : List Str × List Str) : List Str := freeCases e.cases r.1 (freeExps e.kids r.1 r.2)
theorem Q7y (e : Exp) (hs : e.size < 2^26) (hK : ∀ q ∈ e.kids, FreeOK q) (hC : ∀ q ∈ e.cases, FreeOK q.exp) (s0 : St) : ∀ (suf pre : List Dec) (bd found : List Str) (x1 x2 : Slot) (v1 v2 : AV) (s : St) (i : Nat), pre ++ suf = e.decs → i = pre.length → (∀ q ∈ suf, FreeDecOK q) → x1.av = some v1 → (Slot.val v1).list? = some (bd.map .str) → x2.av = some v2 → (Slot.val v2).list? = some (found.map .str) → bd.length + found.length + 4 * (Dec.sizes suf + Exp.sizes e.kids + Case.sizes e.cases) < 2^27 → Grew s0 s →
  RetL (Q0I x1 x2 (e.cells.map .val) (.val (.int .i64 i)) s) s0 (freeTail e (freeDecs suf bd found))
 | [], pre, bd, found, x1, x2, v1, v2, s, i, hp, hi, H, h1, l1, h2, l2, hn, g => by
   subst hi
   have hend := Q8 (show pre = e.decs by simpa using hp)
   simp only [Dec.sizes] at hn
   have e1 := Q7z e hs bd x1 v1 h1 l1 hC s0 e.kids [] found x2 v2 s 0 rfl rfl hK h2 l2 (by omega) g
   rw [show ((0 : Nat) : Int) = 0 from rfl] at e1
   rw [Q3g]
   simp only [freeDecs, freeTail]
   revert e1
   generalize freeCases e.cases bd (freeExps e.kids bd found) = R
   intro e1
   simp only [Exp.cells_eq, List.map_cons, List.map_nil] at e1
   simp only [go_sem, Nat.reduceAdd, Nat.reduceLeDiff, Exp.cells_eq, List.map_cons, List.map_nil, List.length_map, hend]
   exact e1
 | q :: suf, pre, bd, found, x1, x2, v1, v2, s, i, hp, hi, H, h1, l1, h2, l2, hn, g => by
   subst hi
   have hl : e.decs.length < 2^28 := by
    have := Dec.len_sizes e.decs
    cases e; simp only [Exp.size, Exp.decs] at *; omega
   have hqs : q.size < 2^26 := by
    have : q ∈ e.decs := by rw [← hp]; simp
    have := Dec.mem_sizes this
    cases e; simp only [Exp.size, Exp.decs] at *; omega
   have hq : Case.sizes q.case + Fun.sizes q.funs < q.size := by
    cases q; simp only [Dec.size, Dec.case, Dec.funs] at *; omega
   have hfl := Fun.len_sizes q.funs
   obtain ⟨H1, H2, H3⟩ := H q List.mem_cons_self
   obtain ⟨f1, f2, f3⟩ := Q6 (x := .val (encS e.db (e.decs.map Dec.enc))) (Q9 _ _) hp (by omega) (Dec.cells_len q) (by decide)
   simp only [Dec.sizes] at hn
   have hnl := Qg4 q
   obtain ⟨x3, s3, e3, a3⟩ := Q6f q hqs s
   obtain ⟨nl, hav3⟩ := a3.av
   have L : ∀ (F : List Str) (y : Slot) (w : AV) (s' : St), y.av = some w → (Slot.val w).list? = some (F.map .str) → F.length ≤ found.length + Case.sizes q.case → Grew s0 s' → RetL (Q1Z x1 y (e.cells.map .val) (.val (.int .i64 pre.length)) (q.cells.map .val) x3 s') s0 (freeTail e (freeDecs suf (bd ++ namesR q) (freeFuns q.funs (bd ++ namesR q) F))) := fun F y w s' hy hyl hF g' => by
    obtain ⟨x4, s4, w4, e4, a4, l4, g4⟩ := Q3a bd (namesR q) v1 _ l1 (Q9 nl _) (by omega) s'
    have r := Q7A e q pre.length f3 (by omega) (fun F => freeTail e (freeDecs suf (bd ++ namesR q) F)) (bd ++ namesR q) x4 x4 w4 a4 l4 s0 (F.length + Fun.sizes q.funs + 1) (fun x2 v2 found' s h2 l2 hb g => by
     have := Q7y e hs hK hC s0 suf (pre ++ [q]) (bd ++ namesR q) found' x4 x2 w4 v2 s (pre.length + 1) (by simpa using hp) (by simp) (fun r hr => H r (List.mem_cons_of_mem _ hr)) a4 l4 h2 l2 (by simp only [List.length_append]; omega) g
     exact this) q.funs [] F y w s4 0 rfl rfl H3 hy hyl (by simp only [List.length_append]; omega) (by omega) (g'.trans g4)
    rw [show ((0 : Nat) : Int) = 0 from rfl] at r
    rw [Qba]
    revert r
    generalize freeTail e (freeDecs suf (bd ++ namesR q) (freeFuns q.funs (bd ++ namesR q) F)) = R
    intro r
    simp only [go_sem, Qh h1, Qh hav3, e4]
    exact r
   rw [QdY]
   simp only [Exp.cells_eq, Dec.cells_eq, List.map_cons, List.map_nil] at L
   simp only [Dec.enc, Dec.cells_eq] at e3
   by_cases hk : q.kind = 1
   ·rw [decide_eq_true hk, cond_true]
    cases hc : q.case with
    | nil => exact absurd hc (H1 hk)
    | cons c r =>
      cases c with
      | mk p b =>
      have hix : ixS 12 (.val (.sl ((Case.mk p b).enc :: r.map Case.enc))) (.val (.int .i64 0)) = some (.val (.cp (Case.mk p b).cells)) := Q7C (n := 0) (v := (Case.mk p b).enc) rfl rfl (Case.cells_len _) (by decide)
      have hb : Case.sizes q.case ≥ b.size := by rw [hc]; simp only [Case.sizes, Case.size]; omega
      obtain ⟨x5, s5, w5, e5, a5, l5, g5⟩ := H2 (.mk p b) (by rw [hc]; exact List.mem_cons_self) bd found v1 v2 s3 l1 l2 (by simp only [Case.exp]; omega)
      simp only [Case.exp] at e5 l5
      have hf5 := Q0T b bd found
      have j := L (freeR b bd found) x5 w5 s5 a5 l5 (by omega) ((g.trans a3.grew).trans g5)
      simp only [freeVal]
      rw [Q3g]
      revert j
      generalize freeTail e (freeDecs suf (bd ++ namesR q) (freeFuns q.funs (bd ++ namesR q) (freeR b bd found))) = R
      intro j
      simp only [Exp.enc, Exp.cells_eq] at e5
      simp only [hc, hk, List.map_cons, ZT] at j e3
      simp only [go_sem, Nat.reduceAdd, Nat.reduceLeDiff, Exp.cells_eq, Dec.cells_eq, List.map_cons, List.map_nil, List.length_map, f1, f2, Qh h1, Qh h2, e3, hk, hc, decide_true, ZT, hix, Case.cells_mk, Pat.cells_eq, List.cons_append, List.nil_append, e5]
      exact j
   ·rw [decide_eq_false hk, cond_false]
    have j := L found x2 v2 s3 h2 l2 (by omega) (g.trans a3.grew)
    rw [Q3g]
    revert j
    generalize freeTail e (freeDecs suf (bd ++ namesR q) (freeFuns q.funs (bd ++ namesR q) found)) = R
    intro j
    simp only [go_sem, Nat.reduceAdd, Nat.reduceLeDiff, Exp.cells_eq, Dec.cells_eq, List.map_cons, List.map_nil, List.length_map, f1, f2, Qh h1, Qh h2, e3, decide_eq_false hk]
    exact j
theorem QjW (e : Exp) (hs : e.size < 2^26) (hD : ∀ q ∈ e.decs, FreeDecOK q) (hK : ∀ q ∈ e.kids, FreeOK q) (hC : ∀ q ∈ e.cases, FreeOK q.exp) : FreeOK e := by
 intro bd found v w s hv hw hn
 cases e with
 | mk k a nm num l lb c cb d db =>
 simp only [Exp.size] at hn
 have J : ∀ (F : List Str) (y : AV) (s1 : St) (x : Slot), x.av = some y → (Slot.val y).list? = some (F.map .str) → F.length ≤ found.length + 1 → Grew s s1 → RetL (Q0H (.val v) x ((Exp.mk k a nm num l lb c cb d db).cells.map .val) s1) s (freeTail (.mk k a nm num l lb c cb d db) (freeDecs d bd F)) := fun F y s1 x hx hl hF g => by
  have r := Q7y (.mk k a nm num l lb c cb d db) hs hK hC s d [] bd F (.val v) x v y s1 0 rfl rfl hD rfl hv hx hl (by simp only [Exp.kids, Exp.cases]; omega) g
  rw [show ((0 : Nat) : Int) = 0 from rfl] at r
  rw [Qb9]; exact r
 simp only [freeTail, Exp.cases, Exp.kids] at J
 simp only [Exp.cells_mk, List.map_cons, List.map_nil] at J
 have eIn := Q51 nm bd v hv (by omega) s
 have eIn2 := Q51 nm found w hw (by omega) s
 have j0 := J found w s (.val w) rfl hw (by omega) (.refl s)
 rw [Qea]
 simp only [freeR]
 have hbase : RetL (Q0H (.val v) (.val w) ((Exp.mk k a nm num l lb c cb d db).cells.map .val) s) s (freeCases c (freeDecs d bd found).1 (freeExps l (freeDecs d bd found).1 (freeDecs d bd found).2)) := by simpa only [Exp.cells_mk, List.map_cons, List.map_nil] using j0
 by_cases h2 : k = 2
 ·subst h2
  by_cases hm : nm ∈ bd
  ·rw [decide_eq_true hm] at eIn ⊢
   simp only [decide_true, Bool.not_true, Bool.and_false, Bool.false_and, cond_false]
   revert j0
   generalize freeCases c (freeDecs d bd found).1 (freeExps l (freeDecs d bd found).1 (freeDecs d bd found).2) = R
   intro j0
   simp only [go_sem, Nat.reduceAdd, Exp.enc, Exp.cells_mk, List.map_cons, List.map_nil, decide_true, eIn, Bool.not_true]
   exact j0
  ·rw [decide_eq_false hm] at eIn ⊢
   by_cases hm2 : nm ∈ found
   ·rw [decide_eq_true hm2] at eIn2 ⊢
    simp only [decide_true, Bool.not_true, Bool.and_false, cond_false]
    revert j0
    generalize freeCases c (freeDecs d bd found).1 (freeExps l (freeDecs d bd found).1 (freeDecs d bd found).2) = R
    intro j0
    simp only [go_sem, Nat.reduceAdd, Exp.enc, Exp.cells_mk, List.map_cons, List.map_nil, decide_true, eIn, eIn2, Bool.not_true, Bool.not_false]
    exact j0
   ·rw [decide_eq_false hm2] at eIn2 ⊢
    obtain ⟨x3, s3, w3, e3, a3, l3, g3⟩ := Q3a found [nm] w (.sl [.str nm]) hw rfl (by simp only [List.length_singleton]; omega) s
    have j := J (found ++ [nm]) w3 s3 x3 a3 l3 (by simp) g3
    simp only [decide_true, Bool.not_false, Bool.and_true, cond_true]
    revert j
    generalize freeCases c (freeDecs d bd (found ++ [nm])).1 (freeExps l (freeDecs d bd (found ++ [nm])).1 (freeDecs d bd (found ++ [nm])).2) = R
    intro j
    simp only [go_sem, Nat.reduceAdd, Exp.enc, Exp.cells_mk, List.map_cons, List.map_nil, decide_true, eIn, eIn2, Bool.not_false, e3]
    exact j
 ·rw [decide_eq_false h2]
  simp only [Bool.false_and, cond_false]
  revert j0
  generalize freeCases c (freeDecs d bd found).1 (freeExps l (freeDecs d bd found).1 (freeDecs d bd found).2) = R
  intro j0
  simp only [go_sem, Nat.reduceAdd, Exp.enc, Exp.cells_mk, List.map_cons, List.map_nil, decide_eq_false h2]
  exact j0
end Go.Proofs.YtinphnakebeloaaGreat
namespace Go.Proofs.YtinphnakebeloaaGreat
open Go Go.Am
set_option linter.unusedVariables false
def TabEq (t u : List Place) : Prop := t.map ownP = u.map ownP
theorem Qi4 : ∀ t : Ty, ownTy (ownTy t) = ownTy t ∧ True := fun t => ⟨own1 t, trivial⟩
where
 own1 : ∀ t : Ty, ownTy (ownTy t) = ownTy t
 | .mk k n s l b => by simp only [ownTy, ownTys_own l]
 ownTys_own : ∀ l : List Ty, ownTys (ownTys l) = ownTys l
 | [] => rfl
 | t :: l => by simp only [ownTys, own1 t, ownTys_own l]
theorem QiV (p : Place) : ownP (ownP p) = ownP p := by simp only [ownP, (Qi4 p.ty).1]
theorem TabEq.own (t : List Place) : TabEq t (t.map ownP) := by
 unfold TabEq
 rw [List.map_map]
 exact List.map_congr_left fun p _ => (QiV p).symm
theorem TabEq.symm {t u : List Place} (h : TabEq t u) : TabEq u t := Eq.symm h
theorem TabEq.trans {t u w : List Place} (h : TabEq t u) (k : TabEq u w) : TabEq t w := Eq.trans h k
theorem TabEq.app {t u a b : List Place} (h : TabEq t u) (k : TabEq a b) : TabEq (t ++ a) (u ++ b) := by
 unfold TabEq at *
 rw [List.map_append, List.map_append, h, k]
theorem TabEq.map {α : Type} {t u : List Place} (h : TabEq t u) (f : Place → α) (hf : ∀ p, f (ownP p) = f p) : t.map f = u.map f := by
 have h1 : ∀ l : List Place, l.map f = (l.map ownP).map f := fun l => by
  rw [List.map_map]; exact List.map_congr_left fun p _ => (hf p).symm
 rw [h1 t, h1 u, h]
theorem TabEq.names {t u : List Place} (h : TabEq t u) : t.map Place.name = u.map Place.name := h.map _ fun _ => rfl
theorem TabEq.len {t u : List Place} (h : TabEq t u) : t.length = u.length := by
 have := congrArg List.length h
 simpa using this
theorem QbE (t : List Place) (d : Dec) : ∀ (a b : List Ty), firstW t d (a ++ b) = if (firstW t d a).1 ≠ 0 then firstW t d a else firstW t d b
 | [], b => by simp [firstW]
 | u :: a, b => by
   simp only [List.cons_append, firstW, QbE t d a b]
   by_cases h : (wrongR t d u).1 = 0
   ·simp [h]
   ·simp [h]
def TyIs (t : Ty) : Prop := ∀ u ∈ preTy t, u.kind = 1 → u.args = [] ∧ 0 ≤ u.n
theorem QbQ : ∀ {l : List Ty} {w u : Ty}, w ∈ l → u ∈ preTy w → u ∈ preTys l
 | x :: l, w, u, h, hu => by
   simp only [preTys, List.mem_append]
   rcases List.mem_cons.1 h with rfl | h
   ·exact .inl hu
   ·exact .inr (QbQ h hu)
structure WH (u : List Place) (d : Dec) (g : Str → Option Int) (vars : Int) : Prop where
 hk : ∀ v : Ty, v.kind = 1 → 0 ≤ v.n → (wrongR u d v = if v.n ≥ vars then (16, []) else (0, []))
 hg : ∀ v : Ty, v.kind ≠ 1 → wrongR u d v = match g v.name with | none => (8, v.name) | some m => if m ≥ 0 ∧ m ≠ (v.args.length : Int) then (19, v.name) else (0, [])
mutual
theorem Qjf {u : List Place} {d : Dec} {g : Str → Option Int} {vars : Int} (H : WH u d g vars) : ∀ v : Ty, TyIs v → wrongD g vars v = firstW u d (preTy v)
 | .mk k n nm l b, hT => by
   have h0 := hT (.mk k n nm l b) (by simp only [preTy]; exact List.mem_cons_self)
   simp only [Ty.kind, Ty.args, Ty.n] at h0
   simp only [preTy, wrongD]
   by_cases h1 : k = 1
   ·obtain ⟨rfl, hn⟩ := h0 h1
    subst h1
    have := H.hk (.mk 1 n nm [] b) rfl hn
    simp only [preTys, firstW, this, Ty.n, if_true]
    by_cases hv : n ≥ vars
    ·simp [hv]
    ·simp [hv]
   ·have := H.hg (.mk k n nm l b) h1
    have hl := QdP H l (fun w hw u hu => hT u (by simp only [preTy]; exact List.mem_cons_of_mem _ (QbQ hw hu)))
    simp only [Ty.name, Ty.args] at this
    simp only [firstW, this, h1, if_false]
    cases g nm with
    | none => simp
    | some m =>
      simp only
      by_cases hm : m ≥ 0 ∧ m ≠ (l.length : Int)
      ·simp [hm]
      ·simp only [hm, if_false, ne_eq, not_true_eq_false]
       exact hl
theorem QdP {u : List Place} {d : Dec} {g : Str → Option Int} {vars : Int} (H : WH u d g vars) : ∀ l : List Ty, (∀ v ∈ l, TyIs v) → wrongsD g vars l = firstW u d (preTys l)
 | [], _ => by simp only [wrongsD, preTys, firstW]
 | v :: l, hT => by
   simp only [wrongsD, preTys, QbE, Qjf H v (hT v List.mem_cons_self), QdP H l fun w hw => hT w (List.mem_cons_of_mem _ hw)]
end
structure DecOK (d : Dec) : Prop where
 kind : d.kind = 1 ∨ d.kind = 2 ∨ d.kind = 3 ∨ d.kind = 4
 data : d.kind = 3 → 0 ≤ d.params
 exn : d.kind = 4 → d.cons.length = 1
 arg : ∀ c ∈ d.cons, c.has = true → TyIs c.arg
end Go.Proofs.YtinphnakebeloaaGreat
namespace Go.Proofs.YtinphnakebeloaaGreat
open Go Go.Am
set_option linter.unusedVariables false
def opt (b : TBad) : Option TBad := bif decide (b.kind = 0) then none else some b
theorem Q60 {b : TBad} (h : b.kind = 0) : opt b = none := by unfold opt; rw [decide_eq_true h]; rfl
theorem Zs {b : TBad} (h : b.kind ≠ 0) : opt b = some b := by unfold opt; rw [decide_eq_false h]; rfl
theorem Q61 {a b : TBad} {x : Option TBad} {f : Option TBad → Option TBad} (hx : x = opt a) (hs : ∀ c, f (some c) = some c) (hn : f none = opt b) : f x = opt (thenB a b) := by
 subst hx
 by_cases h : a.kind = 0
 ·rw [Q60 h, Q8l h, hn]
 ·rw [Zs h, Q76 h, hs, Zs h]
def SameM (a b : List Str) : Prop := ∀ x, x ∈ a ↔ x ∈ b
theorem SameM.dec {a b : List Str} (h : SameM a b) (x : Str) : decide (x ∈ a) = decide (x ∈ b) := decide_eq_decide.2 (h x)
theorem SameM.app {a b c d : List Str} (h : SameM a b) (k : SameM c d) : SameM (a ++ c) (d ++ b) := fun x => by
 simp only [List.mem_append, h x, k x]; exact Or.comm
theorem Qdw (x : Str) : ∀ (l acc : List Str), x ∈ l.foldl addS acc ↔ x ∈ acc ∨ x ∈ l
 | [], acc => by simp
 | k :: l, acc => by
   rw [List.foldl_cons, Qdw x l]
   have : x ∈ addS acc k ↔ x ∈ acc ∨ x = k := by
    unfold addS
    split
    ·rename_i h
     constructor
     ·exact .inl
     ·rintro (h1 | rfl)
      ·exact h1
      ·exact h
    ·simp
   rw [this, List.mem_cons]
   constructor
   ·rintro ((h | h) | h)
    ·exact .inl h
    ·exact .inr (.inl h)
    ·exact .inr (.inr h)
   ·rintro (h | h | h)
    ·exact .inl (.inl h)
    ·exact .inl (.inr h)
    ·exact .inr h
theorem QbJ {d : Dec} (h : d.kind = 1 → d.case.length = 1) : SameM (namesD d) (namesR d) := fun x => by
 unfold namesD namesOf namesR
 rw [Qdw]
 by_cases h1 : d.kind = 1
 ·have := h h1
  simp [h1, this]
 ·simp [h1]
section
variable (t : List Place)
mutual
theorem Q8g (b : TBad) : ∀ (p : Pat) (had : List Str), (scPat (chkI t) p (had, some b)).2 = some b
 | .mk k a nm n l nl, had => by
   simp only [scPat]
   cases (decide (k = 2) || decide (k = 6)) with
   | true =>
     simp only [cond_true]
     have : (if nm ∈ had then (chkI t).fail 9 a nm (some b) else some b) = some b := by split <;> rfl
     rw [this]; exact Q12 b l _
   | false =>
     simp only [cond_false]
     cases decide (k = 4) with
     | true =>
       simp only [cond_true]
       have : (chkI t).con nm a l.length (some b) = some b := by
        simp only [chkI, conO]
        cases findD nm t with
        | none => rfl
        | some p => simp only; split <;> rfl
       rw [this]; exact Q12 b l _
     | false => exact Q12 b l _
theorem Q12 (b : TBad) : ∀ (l : List Pat) (had : List Str), (scPats (chkI t) l (had, some b)).2 = some b
 | [], had => rfl
 | p :: l, had => by
   simp only [scPats]
   have h := Q8g b p had
   rw [show scPat (chkI t) p (had, some b) = ((scPat (chkI t) p (had, some b)).1, some b) from Prod.ext rfl h]
   exact Q12 b l _
end
theorem Q3P (b : TBad) (e : Exp) (bd : List Str) : scExp (chkI t) e bd (some b) = some b := by cases e; simp only [scExp]; rfl
theorem Q2V (b : TBad) : ∀ (l : List Exp) (bd : List Str), scExps (chkI t) l bd (some b) = some b
 | [], _ => rfl
 | e :: l, bd => by simp only [scExps, Q3P, Q2V b l]
theorem Q7m (b : TBad) (c : Case) (bd : List Str) : scCase (chkI t) c bd (some b) = some b := by
 cases c; simp only [scCase, Q8g, Q3P]
theorem Q1v (b : TBad) : ∀ (l : List Case) (bd : List Str), scCases (chkI t) l bd (some b) = some b
 | [], _ => rfl
 | e :: l, bd => by simp only [scCases, Q7m, Q1v b l]
theorem Qau (b : TBad) : ∀ (l : List Case) (bd : List Str), scVals (chkI t) l bd (some b) = some b
 | [], _ => rfl
 | .mk p e :: l, bd => by simp only [scVals, Q8g, Q3P, Qau b l]
theorem Q4H (b : TBad) : ∀ (l : List Fun) (bd had : List Str), scFuns (chkI t) l bd had (some b) = some b
 | [], _, _ => rfl
 | .mk nm a c :: l, bd, had => by
   have : (if nm ∈ had then (chkI t).fail 9 a nm (some b) else some b) = some b := by split <;> rfl
   simp only [scFuns, this, Q7m, Q4H b l]
theorem Qh9 (b : TBad) (d : Dec) (bd : List Str) : (scDec (chkI t) d bd (some b)).2 = some b := by
 cases d with
 | mk k a nm p l lb c cb f fb =>
 simp only [scDec]
 cases decide (k = 1) with
 | true => simp only [cond_true, Qau]
 | false =>
   cases decide (k = 2) with
   | true => simp only [cond_true, cond_false, Q4H]
   | false => rfl
theorem Q4G (b : TBad) : ∀ (l : List Dec) (bd : List Str), (scDecs (chkI t) l bd (some b)).2 = some b
 | [], _ => rfl
 | d :: l, bd => by simp only [scDecs, Qh9, Q4G b l]
end
def FH (t u : List Place) : Prop := ∀ nm, (findD nm t).map Place.has = (findD nm u).map Place.has
theorem QeG (t u : List Place) (hf : FH t u) (nm : Str) (a : Int) (k : Nat) (hk : k ≤ 1) : conO t nm a k none = opt (conR u nm a k) := by
 have h := hf nm
 unfold conO conR
 cases h1 : findD nm t with
 | none =>
   rw [h1] at h
   cases h2 : findD nm u with
   | none => rfl
   | some q => rw [h2] at h; cases h
 | some p =>
   rw [h1] at h
   cases h2 : findD nm u with
   | none => rw [h2] at h; cases h
   | some q =>
     rw [h2] at h
     have hh : p.has = q.has := by simpa using h
     have hd : decide ((k : Int) > 0) = decide ((k : Int) = 1) := by rw [decide_eq_decide]; omega
     simp only [hh, hd]
     split
     ·rfl
     ·rfl
mutual
theorem QcD {t u : List Place} (hf : FH t u) : ∀ (p : Pat) (had : List Str), RN (nodesPat p) → (scPat (chkI t) p (had, none)).2 = opt (patR u p had).1 ∧ ((patR u p had).1.kind = 0 → (scPat (chkI t) p (had, none)).1 = had ++ varsPat p ∧ (patR u p had).2 = had ++ varsPat p)
 | .mk k a nm n l nl, had, hr => by
   have hw : wrongPatB (.mk k a nm n l nl) = 0 := by simp only [nodesPat] at hr; exact hr _ List.mem_cons_self
   have hl : RN (nodesPats l) := by simp only [nodesPat] at hr; exact hr.t
   simp only [scPat, patR]
   have hvo : varsPat (.mk k a nm n l nl) = (bif decide (k = 2) || decide (k = 6) then [nm] else []) ++ varsPats l := by simp only [varsPat, varOf, Pat.kind, Pat.name]; rfl
   rw [hvo]
   cases hx : (decide (k = 2) || decide (k = 6)) with
   | true =>
     simp only [cond_true, Bool.true_and]
     have h4 : decide (k = 4) = false := by
      simp only [Bool.or_eq_true, decide_eq_true_eq] at hx
      simp only [decide_eq_false_iff_not]; omega
     by_cases hm : nm ∈ had
     ·rw [decide_eq_true hm, cond_true, if_pos hm]
      refine ⟨?_, fun h => absurd h (by simp)⟩
      rw [Zs (by simp)]
      exact Q12 t ⟨9, a, nm⟩ l _
     ·rw [decide_eq_false hm, cond_false, if_neg hm, h4, Bool.false_and, cond_false]
      have ih := Q84 hf l (had ++ [nm]) hl
      refine ⟨ih.1, fun h => ?_⟩
      obtain ⟨h1, h2⟩ := ih.2 h
      rw [h1, h2]; simp
   | false =>
     simp only [cond_false, Bool.false_and, List.nil_append]
     by_cases h4 : k = 4
     ·have hk := Qk6 hw h4
      simp only [Pat.kids] at hk
      rw [decide_eq_true h4, cond_true, Bool.true_and]
      have hc : (chkI t).con nm a l.length none = opt (conR u nm a l.length) := QeG t u hf nm a l.length hk
      rw [hc]
      by_cases hz : (conR u nm a l.length).kind = 0
      ·rw [Q60 hz, decide_eq_true hz, Bool.not_true, cond_false]
       exact Q84 hf l had hl
      ·rw [Zs hz, decide_eq_false hz, Bool.not_false, cond_true]
       exact ⟨by rw [Zs hz]; exact Q12 t _ l _, fun h => absurd h hz⟩
     ·rw [decide_eq_false h4, cond_false, Bool.false_and, cond_false]
      exact Q84 hf l had hl
theorem Q84 {t u : List Place} (hf : FH t u) : ∀ (l : List Pat) (had : List Str), RN (nodesPats l) → (scPats (chkI t) l (had, none)).2 = opt (patsR u l had).1 ∧ ((patsR u l had).1.kind = 0 → (scPats (chkI t) l (had, none)).1 = had ++ varsPats l ∧ (patsR u l had).2 = had ++ varsPats l)
 | [], had, _ => by simp only [scPats, patsR, varsPats, List.append_nil]; exact ⟨rfl, fun _ => ⟨trivial, trivial⟩⟩
 | p :: l, had, hr => by
   simp only [nodesPats] at hr
   obtain ⟨h1, h2⟩ := QcD hf p had hr.l
   simp only [scPats, patsR, varsPats]
   by_cases hz : (patR u p had).1.kind = 0
   ·obtain ⟨h3, h4⟩ := h2 hz
    rw [Q60 hz] at h1
    have ih := Q84 hf l (had ++ varsPat p) hr.r
    rw [show scPat (chkI t) p (had, none) = (had ++ varsPat p, none) from Prod.ext h3 h1, decide_eq_true hz, cond_true, h4]
    rw [← List.append_assoc]
    exact ih
   ·rw [Zs hz] at h1
    rw [show scPat (chkI t) p (had, none) = ((scPat (chkI t) p (had, none)).1, some (patR u p had).1) from Prod.ext rfl h1, decide_eq_false hz, cond_false]
    exact ⟨by rw [Zs hz]; exact Q12 t _ l _, fun h => absurd h hz⟩
end
mutual
theorem QcC {t u : List Place} (hf : FH t u) : ∀ (e : Exp) (bd bdR : List Str), SameM bd bdR → RN (nodesExp e) → scExp (chkI t) e bd none = opt (expR u e bdR)
 | .mk k a nm n l lb c cb d db, bd, bdR, hb, hr => by
   have hw : wrongExpB (.mk k a nm n l lb c cb d db) = 0 := by simp only [nodesExp] at hr; exact hr _ List.mem_cons_self
   have hrd : RN (nodesDecs true d) := by simp only [nodesExp] at hr; exact hr.t.l
   have hrl : RN (nodesExps l) := by simp only [nodesExp] at hr; exact hr.t.r.l
   have hrc : RN (nodesCases c) := by simp only [nodesExp] at hr; exact hr.t.r.r
   obtain ⟨h1, h2⟩ := QeD hf d bd bdR hb hrd
   have hrest : ∀ st, st = none → scCases (chkI t) c (scDecs (chkI t) d bd st).1 (scExps (chkI t) l (scDecs (chkI t) d bd st).1 (scDecs (chkI t) d bd st).2) = opt (thenB (decsR u d bdR) (thenB (expsR u l (bdR ++ d.flatMap namesR)) (onesR u c (bdR ++ d.flatMap namesR)))) := fun st hst => by
    subst hst
    by_cases hz : (decsR u d bdR).kind = 0
    ·have hb2 := h2 hz
     rw [h1, Q60 hz, Q8l hz]
     exact Q61 (f := fun x => scCases (chkI t) c (scDecs (chkI t) d bd none).1 x) (QeE hf l _ _ hb2 hrl) (fun b => Q1v t b c _) (Qdj hf c _ _ hb2 hrc)
    ·rw [h1, Zs hz, Q76 hz, Q2V, Q1v, Zs hz]
   simp only [scExp, expR, scVar]
   rw [show (chkI t).stop none = false from rfl, cond_false]
   by_cases hk2 : k = 2
   ·rw [decide_eq_true hk2, cond_true, Bool.true_and]
    by_cases hm : nm ∈ bdR
    ·rw [if_pos ((hb nm).2 hm), decide_eq_true hm, Bool.not_true, cond_false, decide_eq_false (by omega), Bool.false_and, cond_false]
     exact hrest none rfl
    ·rw [if_neg (fun h => hm ((hb nm).1 h)), decide_eq_false hm, Bool.not_false, cond_true]
     have : (chkI t).free nm a none = some ⟨16, a, nm⟩ := rfl
     rw [this, Q4G, Q2V, Q1v, Zs (by simp)]
   ·rw [decide_eq_false hk2, cond_false, Bool.false_and, cond_false]
    by_cases hk3 : k = 3
    ·have hkk := QjS hw hk3
     simp only [Exp.kids] at hkk
     rw [decide_eq_true hk3, cond_true, Bool.true_and]
     have hc : (chkI t).con nm a l.length none = opt (conR u nm a l.length) := QeG t u hf nm a l.length hkk
     rw [hc]
     by_cases hz : (conR u nm a l.length).kind = 0
     ·rw [Q60 hz, decide_eq_true hz, Bool.not_true, cond_false]
      exact hrest none rfl
     ·rw [Zs hz, decide_eq_false hz, Bool.not_false, cond_true, Q4G, Q2V, Q1v, Zs hz]
    ·rw [decide_eq_false hk3, cond_false, Bool.false_and, cond_false]
     exact hrest none rfl
theorem QeE {t u : List Place} (hf : FH t u) : ∀ (l : List Exp) (bd bdR : List Str), SameM bd bdR → RN (nodesExps l) → scExps (chkI t) l bd none = opt (expsR u l bdR)
 | [], _, _, _, _ => by simp only [scExps, expsR]; rfl
 | e :: l, bd, bdR, hb, hr => by
   simp only [nodesExps] at hr
   simp only [scExps, expsR]
   exact Q61 (f := scExps (chkI t) l bd) (QcC hf e bd bdR hb hr.l) (fun b => Q2V t b l bd) (QeE hf l bd bdR hb hr.r)
theorem QeC {t u : List Place} (hf : FH t u) : ∀ (c : Case) (bd bdR : List Str), SameM bd bdR → RN (nodesCase c) → scCase (chkI t) c bd none = opt (oneR u c bdR)
 | .mk p e, bd, bdR, hb, hr => by
   simp only [nodesCase] at hr
   obtain ⟨h1, h2⟩ := QcD hf p [] hr.l
   simp only [scCase, oneR]
   by_cases hz : (patR u p []).1.kind = 0
   ·obtain ⟨h3, h4⟩ := h2 hz
    rw [List.nil_append] at h4
    rw [h1, Q60 hz, Q8l hz, h4]
    exact QcC hf e _ _ (fun x => by simp only [List.mem_append, hb x]; exact Or.comm) hr.r
   ·rw [h1, Zs hz, Q76 hz, Q3P, Zs hz]
theorem Qdj {t u : List Place} (hf : FH t u) : ∀ (l : List Case) (bd bdR : List Str), SameM bd bdR → RN (nodesCases l) → scCases (chkI t) l bd none = opt (onesR u l bdR)
 | [], _, _, _, _ => by simp only [scCases, onesR]; rfl
 | c :: l, bd, bdR, hb, hr => by
   simp only [nodesCases] at hr
   simp only [scCases, onesR]
   exact Q61 (f := scCases (chkI t) l bd) (QeC hf c bd bdR hb hr.l) (fun b => Q1v t b l bd) (Qdj hf l bd bdR hb hr.r)
theorem QeD {t u : List Place} (hf : FH t u) : ∀ (l : List Dec) (bd bdR : List Str), SameM bd bdR → RN (nodesDecs true l) → (scDecs (chkI t) l bd none).2 = opt (decsR u l bdR) ∧ ((decsR u l bdR).kind = 0 → SameM (scDecs (chkI t) l bd none).1 (bdR ++ l.flatMap namesR))
 | [], bd, bdR, hb, _ => by simp only [scDecs, decsR, List.flatMap_nil, List.append_nil]; exact ⟨rfl, fun _ => hb⟩
 | d :: l, bd, bdR, hb, hr => by
   simp only [nodesDecs] at hr
   obtain ⟨h1, h2⟩ := QjL hf true d bd bdR hb hr.l
   simp only [scDecs, decsR, List.flatMap_cons]
   rw [← List.append_assoc]
   by_cases hz : (decR u d bdR).kind = 0
   ·rw [Q60 hz] at h1
    rw [h1, Q8l hz]
    exact QeD hf l _ _ h2 hr.r
   ·rw [Zs hz] at h1
    rw [h1, Q76 hz]
    exact ⟨by rw [Zs hz]; exact Q4G t _ l _, fun h => absurd h hz⟩
theorem QjL {t u : List Place} (hf : FH t u) : ∀ (i : Bool) (d : Dec) (bd bdR : List Str), SameM bd bdR → RN (nodesDec i d) → (scDec (chkI t) d bd none).2 = opt (decR u d bdR) ∧ SameM (scDec (chkI t) d bd none).1 (bdR ++ namesR d)
 | i, .mk k a s p l lb c cb f fb, bd, bdR, hb, hr => by
   have hdv := Q9R hr
   have hrc : RN (nodesCases c) := by simp only [nodesDec] at hr; exact hr.t.l
   have hrf : RN (nodesFuns f) := by simp only [nodesDec] at hr; exact hr.t.r.l
   have hn := QbJ (d := .mk k a s p l lb c cb f fb) hdv.1
   have hn' : SameM (namesOf k c f) (namesR (.mk k a s p l lb c cb f fb)) := hn
   have hbn : SameM (namesOf k c f ++ bd) (bdR ++ namesR (.mk k a s p l lb c cb f fb)) := hn'.app hb
   simp only [Dec.kind, Dec.case, Dec.funs] at hdv
   simp only [scDec, decR]
   by_cases h1 : k = 1
   ·rw [decide_eq_true h1]
    simp only [cond_true]
    exact ⟨Qiz hf c bd bdR hb hrc (hdv.1 h1), hbn⟩
   ·rw [decide_eq_false h1]
    simp only [cond_false]
    by_cases h2 : k = 2
    ·rw [decide_eq_true h2]
     simp only [cond_true]
     exact ⟨QeF hf f _ _ [] hbn hrf, hbn⟩
    ·rw [decide_eq_false h2]
     simp only [cond_false]
     have hf0 : f = [] := (hdv.2 h1).resolve_left h2
     subst hf0
     refine ⟨by simp only [funsR]; rfl, ?_⟩
     have : namesR (.mk k a s p l lb c cb [] fb) = [] := by simp [namesR, Dec.kind, h1, h2]
     rw [this, List.append_nil]
     exact hb
theorem Qiz {t u : List Place} (hf : FH t u) : ∀ (c : List Case) (bd bdR : List Str), SameM bd bdR → RN (nodesCases c) → c.length = 1 → scVals (chkI t) c bd none = opt (valR u c bdR)
 | [], _, _, _, _, h => by cases h
 | .mk p e :: [], bd, bdR, hb, hr, _ => by
   simp only [nodesCases, nodesCase, List.append_nil] at hr
   obtain ⟨h1, h2⟩ := QcD hf p [] hr.l
   simp only [scVals, valR]
   exact Q61 (f := fun x => scExp (chkI t) e bd x) h1 (fun b => Q3P t b e bd) (QcC hf e bd bdR hb hr.r)
 | _ :: _ :: _, _, _, _, _, h => by simp only [List.length_cons] at h; omega
theorem QeF {t u : List Place} (hf : FH t u) : ∀ (l : List Fun) (bd bdR had : List Str), SameM bd bdR → RN (nodesFuns l) → scFuns (chkI t) l bd had none = opt (funsR u l bdR had)
 | [], _, _, _, _, _ => by simp only [scFuns, funsR]; rfl
 | .mk nm a c :: l, bd, bdR, had, hb, hr => by
   simp only [nodesFuns, nodesFun] at hr
   simp only [scFuns, funsR]
   by_cases hm : nm ∈ had
   ·rw [if_pos hm, decide_eq_true hm, cond_true]
    have : (chkI t).fail 9 a nm none = some ⟨9, a, nm⟩ := rfl
    rw [this, Q7m, Q4H, Zs (by simp)]
   ·rw [if_neg hm, decide_eq_false hm, cond_false]
    exact Q61 (f := scFuns (chkI t) l bd (had ++ [nm])) (QeC hf c bd bdR hb hr.l.t) (fun b => Q4H t b l bd _) (QeF hf l bd bdR _ hb hr.r)
end
end Go.Proofs.YtinphnakebeloaaGreat
namespace Go.Proofs.YtinphnakebeloaaGreat
open Go Go.Am
set_option linter.unusedVariables false
mutual
theorem Q5F : ∀ (p : Pat) (st : List Str × List Str), (scPat freeI p st).2 = st.2
 | .mk k a nm n l lb, st => by
   simp only [scPat]
   rw [Qat]
   cases (decide (k = 2) || decide (k = 6)) <;> cases decide (k = 4) <;> simp [freeI]
theorem Qat : ∀ (l : List Pat) (st : List Str × List Str), (scPats freeI l st).2 = st.2
 | [], st => rfl
 | p :: l, st => by simp only [scPats]; rw [Qat, Q5F]
end
theorem Qha (k a : Int) (nm : Str) (n : Nat) {bd bdR : List Str} (h : SameM bd bdR) (st : List Str) : scVar freeI k a nm n bd st = bif decide (k = 2) && !decide (nm ∈ bdR) && !decide (nm ∈ st) then st ++ [nm] else st := by
 unfold scVar
 cases hk : decide (k = 2) with
 | false => cases decide (k = 3) <;> simp [freeI]
 | true =>
   rw [← h.dec nm]
   by_cases hm : nm ∈ bd
   ·simp [hm]
   ·by_cases h2 : nm ∈ st <;> simp [hm, h2, freeI, addS]
mutual
theorem Q9k : ∀ (e : Exp) (bd bdR st : List Str), SameM bd bdR → RN (nodesExp e) → scExp freeI e bd st = freeR e bdR st
 | .mk k a nm n l lb c cb d db, bd, bdR, st, h, hr => by
   simp only [nodesExp] at hr
   simp only [scExp, freeR, Qha k a nm l.length h st]
   rw [show freeI.stop st = false from rfl, cond_false]
   generalize (bif decide (k = 2) && !decide (nm ∈ bdR) && !decide (nm ∈ st) then st ++ [nm] else st) = F
   obtain ⟨h1, h2⟩ := QcM d bd bdR F h hr.t.l
   rw [Qgw l _ _ _ h2 hr.t.r.l, QeT c _ _ _ h2 hr.t.r.r, h1]
theorem Qgw : ∀ (l : List Exp) (bd bdR st : List Str), SameM bd bdR → RN (nodesExps l) → scExps freeI l bd st = freeExps l bdR st
 | [], _, _, _, _, _ => rfl
 | e :: l, bd, bdR, st, h, hr => by
   simp only [nodesExps] at hr
   simp only [scExps, freeExps]
   rw [Q9k e bd bdR st h hr.l, Qgw l bd bdR _ h hr.r]
theorem QeT : ∀ (l : List Case) (bd bdR st : List Str), SameM bd bdR → RN (nodesCases l) → scCases freeI l bd st = freeCases l bdR st
 | [], _, _, _, _, _ => rfl
 | .mk p e :: l, bd, bdR, st, h, hr => by
   simp only [nodesCases, nodesCase] at hr
   simp only [scCases, freeCases, scCase, Q5F]
   have hs : SameM (varsPat p ++ bd) (bdR ++ varsPat p) := SameM.app (fun _ => .rfl) h
   rw [Q9k e _ _ st hs hr.l.r, QeT l bd bdR _ h hr.r]
theorem QcM : ∀ (l : List Dec) (bd bdR st : List Str), SameM bd bdR → RN (nodesDecs true l) → (scDecs freeI l bd st).2 = (freeDecs l bdR st).2 ∧ SameM (scDecs freeI l bd st).1 (freeDecs l bdR st).1
 | [], _, _, _, h, _ => ⟨rfl, h⟩
 | .mk k a s p l lb c cb f fb :: r, bd, bdR, st, h, hr => by
   simp only [nodesDecs] at hr
   have hw : wrongDecB (.mk k a s p l lb c cb f fb) true = 0 := by
    have := hr.l
    simp only [nodesDec] at this; exact this _ List.mem_cons_self
   have D := QeJ hw
   simp only [Dec.kind, Dec.case, Dec.funs] at D
   have hn : SameM (namesOf k c f) (namesR (.mk k a s p l lb c cb f fb)) := QbJ (d := .mk k a s p l lb c cb f fb) (Q9R hr.l).1
   have hb : SameM (namesOf k c f ++ bd) (bdR ++ namesR (.mk k a s p l lb c cb f fb)) := SameM.app hn h
   have hl := hr.l
   simp only [nodesDec] at hl
   simp only [scDecs, freeDecs, scDec]
   rcases D.inn rfl with h1 | h1
   ·have hf : f = [] := len0 (D.val h1).2.1
    have hc : c.length = 1 := by have := (D.val h1).1; omega
    rw [decide_eq_true h1, cond_true, cond_true]
    simp only
    rw [QjU c bd bdR st h hl.t.l hc]
    have hz : ∀ b F, freeFuns f b F = F := by rw [hf]; intros; rfl
    rw [hz]
    exact QcM r _ _ _ hb hr.r
   ·have h2 : k ≠ 1 := by omega
    rw [decide_eq_false h2, cond_false, cond_false, decide_eq_true h1, cond_true]
    simp only
    rw [Qgx f _ _ [] st hb hl.t.r.l]
    exact QcM r _ _ _ hb hr.r
theorem QjU : ∀ (l : List Case) (bd bdR st : List Str), SameM bd bdR → RN (nodesCases l) → l.length = 1 → scVals freeI l bd st = freeVal l bdR st
 | .mk p e :: [], bd, bdR, st, h, hr, _ => by
   simp only [nodesCases, nodesCase] at hr
   simp only [scVals, freeVal, Q5F]
   exact Q9k e bd bdR st h hr.l.r
theorem Qgx : ∀ (l : List Fun) (bd bdR had st : List Str), SameM bd bdR → RN (nodesFuns l) → scFuns freeI l bd had st = freeFuns l bdR st
 | [], _, _, _, _, _, _ => rfl
 | .mk nm a (.mk p e) :: l, bd, bdR, had, st, h, hr => by
   simp only [nodesFuns, nodesFun, nodesCase] at hr
   simp only [scFuns, freeFuns, freeCase, scCase, Q5F]
   have hs : SameM (varsPat p ++ bd) (bdR ++ varsPat p) := SameM.app (fun _ => .rfl) h
   rw [show (if nm ∈ had then freeI.fail 9 a nm st else st) = st by unfold freeI; simp, Q9k e _ _ st hs hr.l.t.r, Qgx l bd bdR _ _ h hr.r]
end
def freeDR (e : Exp) : List Str := if rightN (nodesExp e) (deepExp e) ≠ .zero then [] else freeR e [] []
def bindsDR (d : Dec) : List Str := if rightN (nodesDecs false [d]) (deepDecs [d] 0) ≠ .zero then [] else (namesR d).foldl addS []
theorem QjV (e : Exp) : freeD e = freeDR e := by
 unfold freeD freeDR
 by_cases h : rightN (nodesExp e) (deepExp e) = .zero
 ·rw [if_neg (by simpa using h), if_neg (by simpa using h)]
  exact Q9k e [] [] [] (fun _ => .rfl) (Q4F h)
 ·rw [if_pos h, if_pos h]
theorem Qiv (d : Dec) : bindsD d = bindsDR d := by
 unfold bindsD bindsDR
 by_cases h : rightN (nodesDecs false [d]) (deepDecs [d] 0) = .zero
 ·rw [if_neg (by simpa using h), if_neg (by simpa using h)]
  have hr : RN (nodesDec false d) := by
   have : RN (nodesDecs false [d]) := Q4F h
   simp only [nodesDecs] at this; exact this.l
  have hd := (Q9R hr).1
  unfold namesD namesOf namesR
  by_cases hk : d.kind = 1
  ·rw [decide_eq_true hk, hd hk]; rfl
  ·rw [decide_eq_false hk]; rfl
 ·rw [if_pos h, if_pos h]
end Go.Proofs.YtinphnakebeloaaGreat
namespace Go.Proofs.YtinphnakebeloaaGreat
open Go Go.Am
set_option linter.unusedVariables false
set_option maxRecDepth 4000
theorem QeV : ∀ (m : Nat) (e : Exp), e.size ≤ m → e.size < 2^26 → RN (nodesExp e) → FreeOK e
 | 0, e, h, _, _ => by cases e; simp only [Exp.size] at h; omega
 | m + 1, .mk k a nm n l lb c cb d db, hm, h', hr => by
   have iE := QeV m
   simp only [Exp.size] at hm h'
   simp only [nodesExp] at hr
   have hcase : ∀ q : Case, q.size ≤ m → q.size < 2^26 → RN (nodesCase q) → FreeOK q.exp := fun q hq hq' hr => by
    cases q with
    | mk p e => simp only [Case.size] at hq hq'; simp only [nodesCase] at hr; exact iE e (by omega) (by omega) hr.r
   refine QjW _ (by simp only [Exp.size]; omega) (fun q hq => ?_) (fun q hq => ?_) (fun q hq => ?_)
   ·have hs := Dec.mem_sizes hq
    simp only [Exp.decs] at hs hq
    have hq2 := hr.t.l.decs q hq
    have hdv := Q9R hq2
    refine ⟨fun hk hc => ?_, fun u hu => ?_, fun u hu => ?_⟩
    ·have := hdv.1 hk
     rw [hc] at this; cases this
    ·have h1 := Case.mem_sizes hu
     cases q with
     | mk k a nm p l lb c cb f fb =>
     simp only [Dec.size] at hs
     simp only [Dec.case] at h1 hu
     simp only [nodesDec] at hq2
     exact hcase u (by omega) (by omega) (hq2.t.l.cases u hu)
    ·have h1 := Fun.mem_sizes hu
     cases q with
     | mk k a nm p l lb c cb f fb =>
     simp only [Dec.size] at hs
     simp only [Dec.funs] at h1 hu
     simp only [nodesDec] at hq2
     have : u.case.size ≤ u.size := by cases u; simp only [Fun.size, Fun.case]; omega
     exact hcase u.case (by omega) (by omega) (hq2.t.r.l.funs u hu)
   ·have hs := Exp.mem_sizes hq
    simp only [Exp.kids] at hs hq
    exact iE q (by omega) (by omega) (hr.t.r.l.exps q hq)
   ·have hs := Case.mem_sizes hq
    simp only [Exp.cases] at hs hq
    exact hcase q (by omega) (by omega) (hr.t.r.r.cases q hq)
theorem Qc2 (e : Exp) (hs : e.size < 2^24) (hok : ∀ n ∈ nodesExp e, n.ok) (s : St) : RetL (cw (.f Q5O) [e.enc] s) s (freeDR e) := by
 obtain ⟨s1, e1, g1⟩ := Q8T e s (by omega) hok
 have n1 := Q6V (rightN (nodesExp e) (deepExp e)) s1
 unfold freeDR
 by_cases hr : rightN (nodesExp e) (deepExp e) = .zero
 ·rw [if_neg (by simpa using hr)]
  rw [hr] at e1 n1
  obtain ⟨x, s2, v, e2, a2, l2, g2⟩ := QeV _ e (Nat.le_refl _) (by omega) (Q4F hr) [] [] .nils .nils s1 rfl rfl (by simp only [List.length_nil]; omega)
  refine ⟨x, s2, v, ?_, a2, l2, g1.trans g2⟩
  rw [Q8K]
  simp only [TBad.enc, TBad.cells, TBad.zero, decide_true] at e1 n1
  simp only [Exp.enc, Exp.cells_eq] at e1 e2
  simp only [go_sem, Nat.reduceAdd, Nat.reduceLeDiff, Exp.enc, Exp.cells_eq, e1, n1, e2, Bool.not_true]
 ·rw [if_pos (by simpa using hr)]
  refine ⟨.val .nils, s1, .nils, ?_, rfl, rfl, g1⟩
  have hz : (rightN (nodesExp e) (deepExp e)).kind ≠ 0 := fun h => hr (Qc4.1 h)
  rw [decide_eq_false hz] at n1
  revert e1 n1
  generalize rightN (nodesExp e) (deepExp e) = b
  intro e1 n1
  rw [Q8K]
  simp only [TBad.enc, TBad.cells] at e1 n1
  simp only [Exp.enc, Exp.cells_eq] at e1
  simp only [go_sem, Nat.reduceAdd, Nat.reduceLeDiff, Exp.enc, Exp.cells_eq, e1, n1, Bool.not_false]
theorem Q3f (N : List Str) (y : Slot) (hy : y.list? = some (N.map .str)) (hl : N.length < 2^26) (s0 : St) : ∀ (suf pre A : List Str) (x : Slot) (s : St) (i : Nat), AccR Q2 s0 s x (A.map .str) → pre ++ suf = N → i = pre.length → A.length ≤ pre.length →
  RetA (Q0n x y (.val (.int .i64 i)) s) Q2 s0 ((suf.foldl addS A).map .str)
 | [], pre, A, x, s, i, a, hp, hi, hA => by
   subst hi
   have hend := Q8 (show pre = N by simpa using hp)
   refine ⟨x, s, ?_, a⟩
   rw [Q2K]
   simp only [go_sem, hy, List.length_map, hend]
 | k :: suf, pre, A, x, s, i, a, hp, hi, hA => by
   subst hi
   obtain ⟨f1, f2, f3⟩ := Q6 hy hp (by omega) (sz := 1) rfl (by decide)
   have hlt : pre.length < N.length := by rw [← hp]; simp
   obtain ⟨nl, hav⟩ := a.av
   have eIn := Q51 k A _ (Q9 nl _) (by omega) s
   rw [List.foldl_cons]
   by_cases hm : k ∈ A
   ·have ih := Q3f N y hy hl s0 suf (pre ++ [k]) A x s (pre.length + 1) a (by simpa using hp) (by simp) (by simp only [List.length_append]; omega)
    rw [show addS A k = A from if_pos hm]
    rw [decide_eq_true hm] at eIn
    rw [Q2K]
    revert ih
    generalize (suf.foldl addS A).map AV.str = L
    intro ih
    simp only [go_sem, Nat.reduceAdd, Nat.reduceLeDiff, hy, List.length_map, f1, f2, f3, Qh hav, eIn, Bool.not_true] at ih ⊢
    exact ih
   ·obtain ⟨x2, s2, e2, a2⟩ := AccR.appendF (f := AV.str) (B := [k]) (t := C.ti Q2) (y := .full [.str k]) a rfl (fun _ => by rw [Z7]; rfl) (by rw [Z7]; decide) (by simp only [List.length_singleton]; omega) (by rw [Q1d]; decide)
    have ih := Q3f N y hy hl s0 suf (pre ++ [k]) (A ++ [k]) x2 s2 (pre.length + 1) a2 (by simpa using hp) (by simp) (by simp only [List.length_append, List.length_singleton]; omega)
    rw [show addS A k = A ++ [k] from if_neg hm]
    rw [decide_eq_false hm] at eIn
    rw [Q2K]
    revert ih
    generalize (suf.foldl addS (A ++ [k])).map AV.str = L
    intro ih
    simp only [go_sem, Nat.reduceAdd, Nat.reduceLeDiff, hy, List.length_map, f1, f2, f3, Qh hav, eIn, Bool.not_false, e2] at ih ⊢
    exact ih
theorem Qb8 (d : Dec) (hs : d.size < 2^24) (hok : ∀ n ∈ nodesDecs false [d], n.ok) (s : St) : RetL (cw (.f Q36) [d.enc] s) s (bindsDR d) := by
 obtain ⟨s1, e1, g1⟩ := QaZ [d] false s (by simp only [Dec.sizes]; omega) hok
 simp only [List.map_cons, List.map_nil, ZT] at e1
 have n1 := Q6V (rightN (nodesDecs false [d]) (deepDecs [d] 0)) s1
 unfold bindsDR
 by_cases hr : rightN (nodesDecs false [d]) (deepDecs [d] 0) = .zero
 ·rw [if_neg (by simpa using hr)]
  rw [hr] at e1 n1
  obtain ⟨x3, s3, e3, a3⟩ := Q6f d (by omega) s1
  obtain ⟨nl, hav3⟩ := a3.av
  have hnl := QbI d
  obtain ⟨x4, s4, e4, a4⟩ := Q3f (namesR d) x3 (Qh3 hav3 (Q9 nl _)) (by omega) s3 (namesR d) [] [] (.full []) s3 0 (AccR.full _ _ _) rfl rfl (by simp)
  obtain ⟨nl4, hav4⟩ := a4.av
  rw [show ((0 : Nat) : Int) = 0 from rfl] at e4
  refine ⟨x4, s4, _, ?_, hav4, Q9 nl4 _, (g1.trans a3.grew).trans a4.grew⟩
  rw [Q7K]
  simp only [TBad.enc, TBad.cells, TBad.zero, decide_true] at e1 n1
  simp only [Dec.enc, Dec.cells_eq] at e1 e3
  simp only [go_sem, Nat.reduceAdd, Nat.reduceLeDiff, Dec.enc, Dec.cells_eq, e1, n1, e3, Bool.not_true]
  exact e4
 ·rw [if_pos (by simpa using hr)]
  refine ⟨.val .nils, s1, .nils, ?_, rfl, rfl, g1⟩
  have hz : (rightN (nodesDecs false [d]) (deepDecs [d] 0)).kind ≠ 0 := fun h => hr (Qc4.1 h)
  rw [decide_eq_false hz] at n1
  revert e1 n1
  generalize rightN (nodesDecs false [d]) (deepDecs [d] 0) = b
  intro e1 n1
  rw [Q7K]
  simp only [TBad.enc, TBad.cells] at e1 n1
  simp only [Dec.enc, Dec.cells_eq] at e1
  simp only [go_sem, Nat.reduceAdd, Nat.reduceLeDiff, Dec.enc, Dec.cells_eq, e1, n1, Bool.not_false]
end Go.Proofs.YtinphnakebeloaaGreat
namespace Go.Proofs.YtinphnakebeloaaGreat
open Go Go.Am
set_option linter.unusedVariables false
set_option maxRecDepth 4000
theorem QgZ (e : Exp) : (freeDR e).length ≤ e.size := by
 have := Q0T e [] []
 unfold freeDR
 split
 ·simp
 ·simpa using this
theorem QfS (d : Dec) : (bindsDR d).length ≤ d.size := by
 have h1 := Q2A (namesR d) []
 have h2 := QbI d
 unfold bindsDR
 split
 ·simp
 ·simp only [List.length_nil] at h1; omega
theorem Q89 (e : Exp) (d : Dec) (hs : e.size < 2^23) (hd : d.size < 2^23) (hok : ∀ n ∈ nodesExp e, n.ok) (hdk : ∀ n ∈ nodesDecs false [d], n.ok) (s : St) : Ret (cw (.f Q2F) [e.enc, d.enc] s) s (.bool true) := by
 obtain ⟨s1, e1, g1⟩ := Q7D [d] false (by simp only [Dec.sizes]; omega) s
 have v1 := Q4v (.mk 1 0 [] 0 [] true) e
 obtain ⟨s2, e2, g2⟩ := Q7D [valD (.mk 1 0 [] 0 [] true) e] false (by simp only [valD, Dec.sizes, Dec.size, Con.sizes, Case.sizes, Case.size, Pat.size, Pat.sizes, Fun.sizes]; omega) s1
 simp only [List.map_cons, List.map_nil, ZT] at e1 e2
 simp only [Pat.enc, Pat.cells_mk, Q5W, List.map_nil] at v1
 simp only [Dec.enc, Dec.cells_eq] at e1 e2
 simp only [Exp.enc, Exp.cells_eq] at v1
 rw [Q9r]
 cases hf : fewB [d] with
 | false =>
   obtain ⟨s4, e4, g4⟩ := Q3d s1
   rw [hf] at e1
   refine ⟨s4, ?_, g1.trans g4⟩
   simp only [go_sem, Nat.reduceAdd, Nat.reduceLeDiff, Exp.enc, Dec.enc, Exp.cells_eq, Dec.cells_eq, e1, e4, Bool.not_false]
 | true =>
   rw [hf] at e1
   cases hf2 : fewB [valD (.mk 1 0 [] 0 [] true) e] with
   | false =>
     obtain ⟨s4, e4, g4⟩ := Q3d s2
     rw [hf2] at e2
     refine ⟨s4, ?_, (g1.trans g2).trans g4⟩
     simp only [go_sem, Nat.reduceAdd, Nat.reduceLeDiff, Exp.enc, Dec.enc, Exp.cells_eq, Dec.cells_eq, e1, e4, Bool.not_true, Bool.not_false, v1, e2]
   | true =>
     rw [hf2] at e2
     obtain ⟨x3, s3, w3, e3, a3, l3, g3⟩ := Q6X e (by omega) hok s2
     obtain ⟨x4, s4, w4, e4, a4, l4, g4⟩ := Qc2 e (by omega) hok s3
     rw [QjV] at l3
     have e5 := Q2i (freeDR e) (freeDR e) w3 w4 l3 l4 (by have := QgZ e; omega) s4
     obtain ⟨x6, s6, w6, e6, a6, l6, g6⟩ := Q6k d (by omega) hdk s4
     obtain ⟨x7, s7, w7, e7, a7, l7, g7⟩ := Qb8 d (by omega) hdk s6
     rw [Qiv] at l6
     have e8 := Q2i (bindsDR d) (bindsDR d) w6 w7 l6 l7 (by have := QfS d; omega) s7
     rw [decide_eq_true rfl] at e5 e8
     obtain ⟨s9, e9, g9⟩ := Q3d s7
     refine ⟨s9, ?_, (((((g1.trans g2).trans g3).trans g4).trans g6).trans g7).trans g9⟩
     simp only [Exp.enc, Dec.enc, Exp.cells_eq, Dec.cells_eq] at e3 e4 e6 e7
     simp only [go_sem, Nat.reduceAdd, Nat.reduceLeDiff, Exp.enc, Dec.enc, Exp.cells_eq, Dec.cells_eq, e1, Bool.not_true, v1, e2, e3, e4, Qh a3, Qh a4, e5, e6, e7, Qh a6, Qh a7, e8, e9]
theorem Q8S {k0 k1 : Nat} (e : Exp) (ge : e.size ≤ k0 ∧ ∀ nd ∈ nodesExp e, nd.ok) (d : Dec) (gd : d.size ≤ k1 ∧ ∀ i, ∀ nd ∈ nodesDec i d, nd.ok) (hb : k0 + (k1 + 0) ≤ 1048576) : Ret (cw (.f Q2F) [e.enc, d.enc] st0) st0 (.bool true) :=
 Q89 e d (by have := ge.1; omega) (by have := gd.1; omega) ge.2 (by
  intro n hn
  simp only [nodesDecs, List.append_nil] at hn
  exact gd.2 false n hn) st0
end Go.Proofs.YtinphnakebeloaaGreat