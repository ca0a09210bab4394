/- A part of the proof: LScopeClosed. -/
import Derived.Test.YtinphnakebeloaaM13
import Derived.Test.YtinphnakebeloaaM14
set_option linter.unusedVariables false
set_option linter.unusedSimpArgs false
namespace Go.Proofs.Ytinphnakebeloaa
open Go Go.Am
set_option linter.unusedVariables false
set_option maxRecDepth 4000
theorem QeM (d : Dec) : (bindsD d).length ≤ d.size := by
 have h1 := Q1R (namesR d) []
 have h2 := Qf2 d
 rw [Qgs]
 unfold bindsDR
 split
 ·simp
 ·simp only [List.length_nil] at h1; omega
theorem Qby (e : Exp) : (freeD e).length ≤ e.size := by
 have := Q3R e [] []
 rw [QhQ]
 unfold freeDR
 split
 ·simp
 ·simpa using this
theorem Q6c {f : Fun} {n : TNode} (hn : n ∈ nodesCase f.case) : ∀ {l : List Fun}, f ∈ l → n ∈ nodesFuns l
 | x :: l, h => by
   simp only [nodesFuns]
   rcases List.mem_cons.1 h with rfl | h
   ·cases f; simp only [nodesFun]; exact List.mem_append_left _ (List.mem_cons_of_mem _ hn)
   ·exact List.mem_append_right _ (Q6c hn h)
theorem Q6b {i : Bool} {d : Dec} {n : TNode} (hn : n ∈ nodesDec i d) : ∀ {l : List Dec}, d ∈ l → n ∈ nodesDecs i l
 | x :: l, h => by
   simp only [nodesDecs]
   rcases List.mem_cons.1 h with rfl | h
   ·exact List.mem_append_left _ hn
   ·exact List.mem_append_right _ (Q6b hn h)
theorem Qlh {d : Dec} (h : ∀ n ∈ nodesDec false d, n.ok) {f : Fun} (hf : f ∈ d.funs) : ∀ n ∈ nodesExp (fnE f.case), n.ok := by
 intro n hn
 simp only [fnE, nodesExp, nodesDecs, nodesExps, nodesCases, List.nil_append, List.append_nil, List.mem_cons] at hn
 rcases hn with rfl | hn
 ·simp [TNode.ok, Exp.name, Exp.kids, Exp.n]
 ·refine h n ?_
  cases d with
  | mk k a s p l lb c cb fs fb =>
  simp only [Dec.funs] at hf
  simp only [nodesDec]
  exact List.mem_cons_of_mem _ (List.mem_append_right _ (List.mem_append_left _ (Q6c hn hf)))
theorem QjB {d : Dec} (h : ∀ n ∈ nodesDec false d, n.ok) {p : Pat} {e : Exp} {r : List Case} (hc : d.case = .mk p e :: r) : ∀ n ∈ nodesExp e, n.ok := by
 intro n hn
 refine h n ?_
 cases d with
 | mk k a s q l lb c cb fs fb =>
 simp only [Dec.case] at hc
 subst hc
 simp only [nodesDec, nodesCases, nodesCase]
 exact List.mem_cons_of_mem _ (List.mem_append_left _ (List.mem_append_left _ (List.mem_append_right _ hn)))
theorem Qf8 {P : List Dec} (h : P ≠ []) (nl : Bool) {i : Nat} (hi : i ≤ P.length) : sliceS (C.ti Qp) (C.ti Qi).size (.val (encS nl (P.map Dec.enc))) none (some (.val (.int .i64 i))) none = some (.val (.sl ((P.take i).map Dec.enc))) := by
 have hall : (P.map Dec.enc).all (fun v => v.cells.length == 7) = true := by
  simp only [List.all_map, List.all_eq_true]
  intro d _
  simp only [Function.comp, beq_iff_eq]; exact Dec.cells_len d
 have hb : ∀ n : Nat, i ≤ n → bound (some (.val (.int .i64 (i : Int)))) n n = some i := fun n hn => by simp only [bound]; rw [if_pos (by omega)]; simp
 have he : encS nl (P.map Dec.enc) = .sl (P.map Dec.enc) := by
  cases P with
  | nil => exact absurd rfl h
  | cons d P => rw [List.map_cons, Q3Q]
 rw [he]
 unfold sliceS
 rw [Q7u, Q9v]
 simp only [Slot.list?, hall, Bool.true_and, Nat.blt_eq, Nat.lt_add_one, cond_true, decide_true]
 rw [hb _ (by simpa using hi)]
 simp [bound, List.map_take]
 rfl
section
variable (x0 x3 x4 : Slot) (x5 : List Slot) (x6 x23 x24 x25 x39 x40 : Slot) (w3 : AV) (bdL : List Str)
theorem Q6Y (h3 : x3.av = some w3) (l3 : (Slot.val w3).list? = some (bdL.map .str)) (hb : bdL.length < 2^40) (N : List Str) (y : Slot) (hy : y.list? = some (N.map .str)) (hN : N.length < 2^40) (hs : ∀ x ∈ N, x ∈ bdL) (j : Nat) (hj : IntKind.i64.wrap ((j : Int) + 1) = ((j + 1 : Nat) : Int)) (s : St) : ∀ (suf pre : List Str) (i : Nat), pre ++ suf = N → i = pre.length →
  Zq x0 x3 x4 x5 x6 x23 x24 x25 x39 x40 (.val (.int .i64 j)) y (.val (.int .i64 N.length)) (.val (.int .i64 i)) s = Z4 x0 x3 x4 x5 x6 x23 x24 x25 x39 x40 (.val (.int .i64 ((j + 1 : Nat) : Int))) s
 | [], pre, i, hp, hi => by
   subst hi
   have hend := Q8 (show pre = N by simpa using hp)
   rw [Q1X]
   simp only [go_sem, hend, hj]
 | k :: suf, pre, i, hp, hi => by
   subst hi
   obtain ⟨f1, f2, f3⟩ := Q7 hy hp (by omega) (sz := 1) rfl (by decide)
   have eIn := Q7e k bdL w3 l3 hb s
   rw [decide_eq_true (hs k (by rw [← hp]; simp))] at eIn
   have ih := Q6Y h3 l3 hb N y hy hN hs j hj s suf (pre ++ [k]) (pre.length + 1) (by simpa using hp) (by simp)
   rw [Q1X]
   simp only [go_sem, Nat.reduceAdd, Nat.reduceLeDiff, f1, f2, f3, Qu h3, eIn, Bool.not_true, ih]
theorem Q6Z (h3 : x3.av = some w3) (l3 : (Slot.val w3).list? = some (bdL.map .str)) (hb : bdL.length < 2^40) (N : List Str) (y : Slot) (hy : y.list? = some (N.map .str)) (hN : N.length < 2^40) (hs : ∀ x ∈ N, x ∈ bdL) (s : St) {v : Slot} {s' : St} (ha : appendS Q2 (C.ti Q2) s x3 x6 = some (v, s')) : ∀ (suf pre : List Str) (i : Nat), pre ++ suf = N → i = pre.length →
  Zr x0 x3 x4 x6 x23 x24 x25 y (.val (.int .i64 N.length)) (.val (.int .i64 i)) s = QR x0 v x4 x23 x24 x25 s'
 | [], pre, i, hp, hi => by
   subst hi
   have hend := Q8 (show pre = N by simpa using hp)
   rw [Q1Y]
   simp only [go_sem, hend, ha]
 | k :: suf, pre, i, hp, hi => by
   subst hi
   obtain ⟨f1, f2, f3⟩ := Q7 hy hp (by omega) (sz := 1) rfl (by decide)
   have eIn := Q7e k bdL w3 l3 hb s
   rw [decide_eq_true (hs k (by rw [← hp]; simp))] at eIn
   have ih := Q6Z h3 l3 hb N y hy hN hs s ha suf (pre ++ [k]) (pre.length + 1) (by simpa using hp) (by simp)
   rw [Q1Y]
   simp only [go_sem, Nat.reduceAdd, Nat.reduceLeDiff, f1, f2, f3, Qu h3, eIn, Bool.not_true, ih]
end
theorem QdQ (d : Dec) (hd : d.size < 2^23) (hok : ∀ n ∈ nodesDec false d, n.ok) (bdL : List Str) (hb : bdL.length < 2^40) (hs : ∀ f ∈ d.funs, ∀ x ∈ freeD (fnE f.case), x ∈ bdL) (x0 x3 x4 x6 x23 x24 x25 : Slot) (w3 : AV) (h3 : x3.av = some w3) (l3 : (Slot.val w3).list? = some (bdL.map .str)) (s0 sB : St) (hk : d.kind ≠ 1) {v : AV}
  (K : ∀ s, Grew sB s → Ret (QR x0 x3 x4 x23 x24 x25 s) s0 v) : ∀ (suf pre : List Fun) (s : St) (i : Nat), pre ++ suf = d.funs → i = pre.length → Grew sB s →
  Ret (Z4 x0 x3 x4 (d.cells.map .val) x6 x23 x24 x25 (.val (encS d.fb (d.funs.map Fun.enc))) (.val (.int .i64 d.funs.length)) (.val (.int .i64 i)) s) s0 v := by
 intro suf
 induction suf with
 | nil =>
   intro pre s i hp hi g
   subst hi
   have hend := Q8 (show pre = d.funs by simpa using hp)
   have k := K s g
   rw [Q1W, Q0j]
   simp only [go_sem, Nat.reduceAdd, Nat.reduceLeDiff, Dec.cells_eq, List.map_cons, List.map_nil, hend, decide_eq_false hk]
   exact k
 | cons q suf IH =>
   intro pre s i hp hi g
   obtain ⟨nm, a, ⟨p, b⟩⟩ := q
   subst hi
   have hl : Fun.sizes d.funs < 2^23 := by
    cases d; simp only [Dec.size, Dec.funs] at *; omega
   have hlen := Fun.len_sizes d.funs
   have hm : Fun.mk nm a (.mk p b) ∈ d.funs := by rw [← hp]; simp
   have hms := Fun.mem_sizes hm
   obtain ⟨f1, f2, f3⟩ := Q7 (x := .val (encS d.fb (d.funs.map Fun.enc))) (Qc _ _) hp (by omega) (Fun.cells_len (.mk nm a (.mk p b))) (by decide)
   simp only [Fun.size, Case.size] at hms
   have hsm := hs _ hm
   have hfo := Qlh hok hm
   simp only [Fun.case] at hsm hfo
   obtain ⟨x5, s5, w5, e5, a5, l5, g5⟩ := Q30 (fnE (.mk p b)) (by simp only [fnE, Exp.size, Exp.sizes, Case.sizes, Case.size, Dec.sizes]; omega) hfo s
   have hy := Q4t a5 l5
   have hN : (freeD (fnE (.mk p b))).length < 2^40 := by
    have := Qby (fnE (.mk p b))
    simp only [fnE, Exp.size, Exp.sizes, Case.sizes, Case.size, Dec.sizes] at this ⊢
    omega
   have e6 := Q6Y x0 x3 x4 (d.cells.map .val) x6 x23 x24 x25 (.val (encS d.fb (d.funs.map Fun.enc))) (.val (.int .i64 d.funs.length)) w3 bdL h3 l3 hb _ x5 hy hN hsm pre.length f3 s5 _ [] 0 rfl rfl
   rw [show ((0 : Nat) : Int) = 0 from rfl] at e6
   have ih := IH (pre ++ [.mk nm a (.mk p b)]) s5 (pre.length + 1) (by simpa using hp) (by simp) (g.trans g5)
   rw [← e6] at ih
   rw [Q1W]
   simp only [fnE, Exp.enc, Exp.cells_mk, List.map_cons, List.map_nil, Q2V, Q4L] at e5
   simp only [Case.enc, Case.cells_mk, Pat.cells_eq, Exp.cells_eq, List.cons_append, List.nil_append] at e5
   simp only [go_sem, Nat.reduceAdd, Nat.reduceLeDiff, Dec.cells_eq, List.map_cons, List.map_nil, f1, f2, Fun.cells_mk, Case.cells_mk, Pat.cells_eq, Exp.cells_eq, List.cons_append, List.nil_append, e5, hy, List.length_map] at ih ⊢
   exact ih
theorem Q8A (P : List Dec) (nl : Bool) (hs : Dec.sizes P < 2^23) (hok : ∀ n ∈ nodesDecs false P, n.ok) (hc : (checkD P).kind = 0) (s0 : St) : ∀ (suf pre : List Dec) (t : List Place) (bd bdL : List Str) (x3 : Slot) (s : St) (i : Nat), pre ++ suf = P → i = pre.length → (chkDecs suf t bd none).2 = none → (∀ x ∈ bd, x ∈ bdL) → bdL.length + Dec.sizes suf < 2^24 → AccR Q2 s0 s x3 (bdL.map .str) →
  Ret (Zp (.val (encS nl (P.map Dec.enc))) x3 (.val (encS nl (P.map Dec.enc))) (.val (.int .i64 P.length)) (.val (.int .i64 i)) s) s0 (.bool true)
 | [], pre, t, bd, bdL, x3, s, i, hp, hi, hch, hsub, hn, a => by
   subst hi
   have hend := Q8 (show pre = P by simpa using hp)
   obtain ⟨s1, e1, g1⟩ := Q2v s
   refine ⟨s1, ?_, a.grew.trans g1⟩
   rw [ZC]
   simp only [go_sem, hend, e1]
 | d :: suf, pre, t, bd, bdL, x3, s, i, hp, hi, hch, hsub, hn, a => by
   subst hi
   obtain ⟨hr1, hr2, hr3⟩ := Q5N hc
   have hdm : d ∈ P := by rw [← hp]; simp
   have hds := Dec.mem_sizes hdm
   have hrd : RN (nodesDec false d) := RN.decs (Q2e hr1) d hdm
   have hdv := Q8g hrd
   have hokd : ∀ n ∈ nodesDec false d, n.ok := fun n hn => hok n (Q6b hn hdm)
   have hbn : bindsD d = namesD d := by
    unfold bindsD
    rw [if_neg (by
     have : rightN (nodesDecs false (pre ++ [d] ++ suf)) (deepDecs (pre ++ [d] ++ suf) 0) = .zero := by
      rw [show pre ++ [d] ++ suf = P by simpa using hp]; exact hr1
     simpa using Q6I this)]
   simp only [Dec.sizes] at hn
   simp only [chkDecs] at hch
   have hmid := Q8z hch
   rw [hmid] at hch
   obtain ⟨f1, f2, f3⟩ := Q7 (x := .val (encS nl (P.map Dec.enc))) (Qc _ _) hp (by have := Dec.len_sizes P; omega) (Dec.cells_len d) (by decide)
   have hne : P ≠ [] := by rw [← hp]; simp
   have hsl := Qf8 hne nl (i := pre.length) (by rw [← hp]; simp)
   rw [Q9v, show P.take pre.length = pre by rw [← hp]; simp] at hsl
   have hpz : (checkD pre).kind = 0 := QeO (b := d :: suf) (by rw [hp]; exact hc)
   have hps : Dec.sizes pre < 2^24 := by
    have : Dec.sizes pre ≤ Dec.sizes P := by
     rw [← hp]
     have : ∀ (u v : List Dec), Dec.sizes u ≤ Dec.sizes (u ++ v) := fun u v => by
      induction u with
      | nil => simp [Dec.sizes]
      | cons x u ih => simp only [List.cons_append, Dec.sizes]; omega
     exact this _ _
    omega
   have hbl := QeM d
   have J1 : ∀ (bd' bdL' : List Str) (y : Slot) (s' : St), (chkDecs suf (addD t d).1 bd' none).2 = none → (∀ x ∈ bd', x ∈ bdL') → bdL'.length ≤ bdL.length + d.size → AccR Q2 s0 s' y (bdL'.map .str) →
     Ret (QR (.val (encS nl (P.map Dec.enc))) y (.val (.int .i64 pre.length)) (.val (encS nl (P.map Dec.enc))) (.val (.int .i64 P.length)) (.val (.int .i64 pre.length)) s') s0 (.bool true) := fun bd' bdL' y s' h1 h2 h3 a' => by
    obtain ⟨s1, e1, g1⟩ := Q6s pre false hps (fun n hn => hok n (by rw [← hp, Q2s]; exact List.mem_append_left _ hn)) s'
    have ih := Q8A P nl hs hok hc s0 suf (pre ++ [d]) (addD t d).1 bd' bdL' y s1 (pre.length + 1) (by simpa using hp) (by simp) h1 h2 (by omega) (a'.move g1)
    rw [Q5f]
    rw [Q2V] at e1
    revert e1 hpz
    generalize checkD pre = b
    intro hpz e1
    obtain ⟨k, at_, nm⟩ := b
    have hpz : k = 0 := hpz
    subst hpz
    simp only [TBad.enc, TBad.cells] at e1
    simp only [go_sem, Nat.reduceLeDiff, hsl, e1, f3] at ih ⊢
    exact ih
   obtain ⟨x1, s1, w1, e1, a1, l1, g1⟩ := Q4U d (by omega) (fun n hn => by simp only [nodesDecs, List.append_nil] at hn; exact hokd n hn) s
   have ha1 := a.move g1
   obtain ⟨x2, s2, e2, a2⟩ := AccR.appendF (f := AV.str) (A := bdL) (B := bindsD d) (t := C.ti Q2) ha1 (Q4t a1 l1) (fun _ => by rw [Q0n]; rfl) (by rw [Q0n]; decide) (by omega) (by rw [Q3x]; decide)
   simp only [Dec.enc, Dec.cells_eq] at e1
   by_cases hk2 : d.kind = 2
   ·have hbd : ∀ x ∈ namesD d ++ bd, x ∈ bdL ++ bindsD d := fun x hx => by
     rw [hbn]
     rcases List.mem_append.1 hx with hx | hx
     ·exact List.mem_append_right _ hx
     ·exact List.mem_append_left _ (hsub x hx)
    have hdec : (scDec (chkI t) d bd none).1 = namesD d ++ bd := by
     cases d; simp only [Dec.kind] at hk2; subst hk2; rfl
    rw [hdec] at hch
    obtain ⟨nl2, hav2⟩ := a2.av
    have hcl := QeP hmid hk2
    have e6 := QdQ d (by omega) hokd (bdL ++ bindsD d) (by simp only [List.length_append]; omega) (fun f hf x hx => hbd x (hcl f hf x hx)) (.val (encS nl (P.map Dec.enc))) x2 (.val (.int .i64 pre.length)) x1 (.val (encS nl (P.map Dec.enc))) (.val (.int .i64 P.length)) (.val (.int .i64 pre.length)) _ hav2 (Qc nl2 _) s0 s2 (by omega) (v := .bool true) (fun s' g' => ?_) d.funs [] s2 0 rfl rfl (.refl s2)
    ·rw [show ((0 : Nat) : Int) = 0 from rfl] at e6
     rw [ZC]
     simp only [hk2] at e1
     simp only [Dec.cells_eq, List.map_cons, List.map_nil] at e6
     simp only [go_sem, Nat.reduceAdd, Nat.reduceLeDiff, f1, f2, Dec.cells_eq, List.map_cons, List.map_nil, e1, hk2, decide_true, e2, List.length_map] at e6 ⊢
     exact e6
    ·exact J1 _ _ x2 s' hch hbd (by simp only [List.length_append]; omega) (a2.move g')
   ·by_cases hk1 : d.kind = 1
    ·have hbd : ∀ x ∈ namesD d ++ bd, x ∈ bdL ++ bindsD d := fun x hx => by
      rw [hbn]
      rcases List.mem_append.1 hx with hx | hx
      ·exact List.mem_append_right _ hx
      ·exact List.mem_append_left _ (hsub x hx)
     have hdec : (scDec (chkI t) d bd none).1 = namesD d ++ bd := by
      cases d; simp only [Dec.kind] at hk1; subst hk1; rfl
     rw [hdec] at hch
     cases hcs : d.case with
     | nil => have := hdv.1 hk1; rw [hcs] at this; cases this
     | cons q r =>
       cases q with
       | mk p b =>
       have hcz : b.size < d.size := by
        cases d; simp only [Dec.case] at hcs; subst hcs; simp only [Dec.size, Case.sizes, Case.size]; omega
       have hix : ixS 12 (.val (.sl ((Case.mk p b).enc :: r.map Case.enc))) (.val (.int .i64 0)) = some (.val (.cp (Case.mk p b).cells)) := Qb2 (n := 0) (v := (Case.mk p b).enc) rfl rfl (Case.cells_len _) (by decide)
       obtain ⟨x5, s5, w5, e5, a5, l5, g5⟩ := Q30 b (by omega) (QjB hokd hcs) s1
       have ha5 := ha1.move g5
       obtain ⟨nl3, hav3⟩ := ha5.av
       obtain ⟨x4, s4, e4, a4⟩ := AccR.appendF (f := AV.str) (A := bdL) (B := bindsD d) (t := C.ti Q2) ha5 (Q4t a1 l1) (fun _ => by rw [Q0n]; rfl) (by rw [Q0n]; decide) (by omega) (by rw [Q3x]; decide)
       have hy := Q4t a5 l5
       have hN := Qby b
       have e6 := Q6Z (.val (encS nl (P.map Dec.enc))) x3 (.val (.int .i64 pre.length)) x1 (.val (encS nl (P.map Dec.enc))) (.val (.int .i64 P.length)) (.val (.int .i64 pre.length)) _ bdL hav3 (Qc nl3 _) (by omega) (freeD b) x5 hy (by omega) (fun x hx => hsub x (QeQ hmid hk1 hcs x hx)) s5 e4 _ [] 0 rfl rfl
       rw [show ((0 : Nat) : Int) = 0 from rfl] at e6
       have j := J1 _ _ x4 s4 hch hbd (by simp only [List.length_append]; omega) a4
       rw [← e6] at j
       rw [ZC]
       simp only [Exp.enc, Exp.cells_eq] at e5
       simp only [hk1, hcs, List.map_cons, Q3Q] at e1
       simp only [go_sem, Int.reduceEq, Nat.reduceAdd, Nat.reduceLeDiff, f1, f2, Dec.cells_eq, List.map_cons, List.map_nil, hk1, hcs, Q3Q, e1, Int.reduceEq, decide_false, decide_true, Q0j, hix, Case.cells_mk, Pat.cells_eq, Exp.cells_eq, List.cons_append, List.nil_append, e5, hy, List.length_map] at j ⊢
       exact j
    ·have hdec : (scDec (chkI t) d bd none).1 = bd := by
      cases d; simp only [Dec.kind] at hk1 hk2; simp only [scDec, decide_eq_false hk1, decide_eq_false hk2, cond_false]
     rw [hdec] at hch
     have j := J1 bd bdL x3 s1 hch hsub (by omega) ha1
     rw [ZC]
     simp only [go_sem, Nat.reduceAdd, Nat.reduceLeDiff, f1, f2, Dec.cells_eq, List.map_cons, List.map_nil, e1, decide_eq_false hk2, decide_eq_false hk1, Q0j] at j ⊢
     exact j
theorem Q5S (P : List Dec) (nl : Bool) (hs : Dec.sizes P < 2^23) (hok : ∀ n ∈ nodesDecs false P, n.ok) (s : St) : Ret (cw (.f Qz) [encS nl (P.map Dec.enc)] s) s (.bool true) := by
 obtain ⟨s1, e1, g1⟩ := Qb3 P nl (by omega) s
 rw [Q6C]
 cases hf : fewB P with
 | false =>
   obtain ⟨s2, e2, g2⟩ := Q2v s1
   rw [hf] at e1
   refine ⟨s2, ?_, g1.trans g2⟩
   simp only [go_sem, e1, e2, Bool.not_false]
 | true =>
   rw [hf] at e1
   obtain ⟨s2, e2, g2⟩ := Q6s P nl (by omega) hok s1
   by_cases hz : (checkD P).kind = 0
   ·have hl := Q8A P nl hs hok hz s2 P [] startD [] [] (.val .nils) s2 0 rfl rfl (Q5N hz).2.2 (fun x h => h) (by simp only [List.length_nil]; omega) (AccR.nil _ _)
    rw [show ((0 : Nat) : Int) = 0 from rfl] at hl
    refine Ret.aft ?_ (g1.trans g2)
    revert e2 hz
    generalize checkD P = b
    intro e2 hz
    obtain ⟨k, a, nm⟩ := b
    have hz : k = 0 := hz
    subst hz
    simp only [TBad.enc, TBad.cells] at e2
    simp only [go_sem, Nat.reduceLeDiff, e1, e2, Bool.not_true, List.length_map]
    exact hl
   ·obtain ⟨s3, e3, g3⟩ := Q2v s2
    refine ⟨s3, ?_, (g1.trans g2).trans g3⟩
    revert e2 hz
    generalize checkD P = b
    intro e2 hz
    obtain ⟨k, a, nm⟩ := b
    have hz : k ≠ 0 := hz
    simp only [TBad.enc, TBad.cells] at e2
    simp only [go_sem, Nat.reduceLeDiff, e1, e2, e3, Bool.not_true, decide_eq_false hz, Bool.not_false]
theorem Q68 {k0 : Nat} (P : List Dec) (b : Bool) (g : Dec.sizes P ≤ k0 ∧ ∀ i, ∀ nd ∈ nodesDecs i P, nd.ok) (hb : k0 + 0 ≤ 1048576) : Ret (cw (.f Qz) [encS b (P.map Dec.enc)] st0) st0 (.bool true) :=
 Q5S P b (by omega) (g.2 false) st0
end Go.Proofs.Ytinphnakebeloaa