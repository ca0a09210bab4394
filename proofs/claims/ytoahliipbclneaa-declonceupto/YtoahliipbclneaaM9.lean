/- A part of the proof: PSame, STree1, STree2, STree3, STree4, STree5. -/
import Derived.Test.YtoahliipbclneaaM3
import Derived.Test.YtoahliipbclneaaM6
import Derived.Test.YtoahliipbclneaaM7
import Derived.Test.YtoahliipbclneaaM8
set_option linter.unusedVariables false
set_option linter.unusedSimpArgs false
namespace Go.Am
open Go
mutual
def eqTy : Ty → Ty → Bool
 | .mk k n s l _, .mk k' n' s' l' _ => decide (k = k') && decide (n = n') && decide (s = s') && eqTys l l'
def eqTys : List Ty → List Ty → Bool
 | [], [] => true
 | t :: l, u :: m => eqTy t u && eqTys l m
 | _, _ => false
end
def atB (w : Bool) (a b : Int) : Bool := !w || decide (a = b)
mutual
def eqPat (w : Bool) : Pat → Pat → Bool
 | .mk k a s n l _, .mk k' a' s' n' l' _ => decide (k = k') && decide (n = n') && decide (s = s') && atB w a a' && eqPats w l l'
def eqPats (w : Bool) : List Pat → List Pat → Bool
 | [], [] => true
 | t :: l, u :: m => eqPat w t u && eqPats w l m
 | _, _ => false
end
def eqCon (w : Bool) (c d : Con) : Bool := decide (c.name = d.name) && decide (c.has = d.has) && atB w c.at_ d.at_ && eqTy c.arg d.arg
def eqCons (w : Bool) : List Con → List Con → Bool
 | [], [] => true
 | t :: l, u :: m => eqCon w t u && eqCons w l m
 | _, _ => false
mutual
def eqExp (w : Bool) : Exp → Exp → Bool
 | .mk k a s n l _ c _ d _, .mk k' a' s' n' l' _ c' _ d' _ => decide (k = k') && decide (n = n') && decide (s = s') && atB w a a' && eqExps w l l' && eqCases w c c' && eqDecs w d d'
def eqExps (w : Bool) : List Exp → List Exp → Bool
 | [], [] => true
 | t :: l, u :: m => eqExp w t u && eqExps w l m
 | _, _ => false
def eqCase (w : Bool) : Case → Case → Bool
 | .mk p e, .mk p' e' => eqPat w p p' && eqExp w e e'
def eqCases (w : Bool) : List Case → List Case → Bool
 | [], [] => true
 | t :: l, u :: m => eqCase w t u && eqCases w l m
 | _, _ => false
def eqDec (w : Bool) : Dec → Dec → Bool
 | .mk k a s p l _ c _ f _, .mk k' a' s' p' l' _ c' _ f' _ => decide (k = k') && decide (s = s') && decide (p = p') && atB w a a' && eqCases w c c' && eqFuns w f f' && eqCons w l l'
def eqDecs (w : Bool) : List Dec → List Dec → Bool
 | [], [] => true
 | t :: l, u :: m => eqDec w t u && eqDecs w l m
 | _, _ => false
def eqFun (w : Bool) : Fun → Fun → Bool
 | .mk s a c, .mk s' a' c' => decide (s = s') && atB w a a' && eqCase w c c'
def eqFuns (w : Bool) : List Fun → List Fun → Bool
 | [], [] => true
 | t :: l, u :: m => eqFun w t u && eqFuns w l m
 | _, _ => false
end
theorem Q5J : ∀ l m : List Ty, l.length ≠ m.length → eqTys l m = false
 | [], [], h => absurd rfl h
 | [], _ :: _, _ => by simp only [eqTys]
 | _ :: _, [], _ => by simp only [eqTys]
 | t :: l, u :: m, h => by rw [eqTys, Q5J l m (by simpa using h), Bool.and_false]
end Go.Am
namespace Go.Proofs.Ytoahliipbclneaa
open Go Go.Am
set_option linter.unusedVariables false
theorem Q40 (n : Int) (s : St) : cw (.f Q1G) [.int .u8 n] s = some (.ret (.val (.bool (smallB n))), s) := by
 rw [QaK]; simp only [go_sem]; rfl
theorem Q3Y (n : Int) (s : St) : cw (.f Q1C) [.int .u8 n] s = some (.ret (.val (.bool (greatB n))), s) := by
 rw [QaG]; simp only [go_sem]; rfl
theorem Q3Z (n : Int) (s : St) : cw (.f Q1D) [.int .i64 n] s = some (.ret (.val (.bool (isIntB n))), s) := by
 rw [QaH]; simp only [go_sem, Int.reduceNeg]; rfl
theorem QaJ (l : Str) (pre : Str) : ∀ (suf : Str) (s : St), pre ++ suf = l → l.length < 2^62 → Q1f (.val (.str l)) (.val (.int .i64 pre.length)) s = some (.ret (.val (.bool (restAll suf && decide (l.length ≤ 32)))), s) := by
 intro suf
 induction suf generalizing pre with
 | nil =>
   intro s h hl
   rw [List.append_nil] at h
   subst h
   rw [Q4w]; simp only [QaP, QaN, Q4R QD, Q2V, Q4F, Q2W]
   rw [Q9e (by simp)]
   simp only [go_sem]
   simp [restAll]
   omega
 | cons c suf ih =>
   intro s h hl
   have hc : l[pre.length]? = some c := by rw [← h]; simp
   have hlt : pre.length < l.length := by rw [← h]; simp
   have := ih (pre ++ [c]) s (by simp [h]) hl
   rw [Q4w]
   simp only [QaP, QaN, Q4R QD, Q2V, Q4F, Q2W]
   rw [Q9f (by simpa using hlt), Q4O QD hc]
   simp only [go_sem, Q40, Q3Y]
   rw [wrap64 (by omega) (by omega)]
   have e : (pre.length : Int) + 1 = ((pre ++ [c]).length : Int) := by simp
   rw [e, this]
   simp only [go_sem, restAll, List.all_cons, unrestB]
   cases (!smallB c.toNat && !greatB c.toNat && (decide ((c.toNat : Int) < 48) || decide ((c.toNat : Int) > 57)) && !decide ((c.toNat : Int) = 39)) <;> simp
theorem Q5k (l : Str) (s : St) (h0 : l ≠ []) (hl : l.length < 2^62) : cw (.f Q1F) [.str l] s = some (.ret (.val (.bool (runB l))), s) := by
 rw [Qck]
 cases l with
 | nil => exact absurd rfl h0
 | cons c l => exact QaJ (c :: l) [c] l s rfl hl
theorem Q4u (a b : Str) (s : St) (h : a.length < 4294967281) : cw (.f Q0H) [.str a, .str b] s = some (.ret (.val (.bool (Go.Lib.contains a b))), s) := by
 have e : C.ext Q0H = some extContains := by kernel_rfl
 rw [cw, Q6]; unfold callR; rw [e]; simp [extContains, h]
theorem Q2N (l : Str) (s : St) (hl : l.length < 2^62) : cw (.f Q0S) [.str l] s = some (.ret (.val (.bool (capB l))), s) := by
 rw [Q8J]
 by_cases h0 : l = []
 ·subst h0; simp only [go_sem]; rfl
 ·simp only [go_sem, h0, Q3Y, not_false_eq_true, Q49 QD h0, Q5k l s h0 hl]
  simp [capB, h0, headB]
theorem Q1w (l : Str) (s : St) (hl : l.length < 2^62) : cw (.f ZL) [.str l] s = some (.ret (.val (.bool (conB l))), s) := by
 rw [Q5n]
 simp only [go_sem, Q2N l s hl]
 rfl
theorem Q0u (l : Str) (s : St) (hl : l.length < 2^62) : cw (.f Q0k) [.str l] s = some (.ret (.val (.bool (lowB l))), s) := by
 rw [Qcj]
 by_cases h0 : l = []
 ·subst h0; simp only [go_sem]; rfl
 ·have hk : Q7K = wordsS := by decide +kernel
  have hc := fun b s => Q4u wordsS b s (by decide +kernel)
  simp only [go_sem, h0, Q40, not_false_eq_true, Q49 QD h0, Q5k l s h0 hl, Q9u (C.ti Q2) [32] l (by simp; omega), Q9u (C.ti Q2) (32 :: l) [32] (by simp; omega), hk, hc]
  simp [lowB, h0, headB, Bool.and_assoc]
end Go.Proofs.Ytoahliipbclneaa
namespace Go.Proofs.Ytoahliipbclneaa
open Go Go.Am
set_option linter.unusedVariables false
set_option maxRecDepth 4000
theorem Q6A (t : Ty) (s : St) (hn : t.name.length < 2^62) : cw (.f Q03) [t.enc] s = some (.ret (.val (.int .i64 (wrongTyB t))), s) := by
 obtain ⟨k, n, nm, l, nl⟩ := t
 rw [Q8P]
 simp only [go_sem, Nat.reduceAdd, Nat.reduceLeDiff, Q6f, Q6g, Q0u nm _ hn]
 show _ = some (Out.ret (.val (.int .i64 (wrongTyC k n nm l.length))), s)
 delta wrongTyC tyLM
 generalize decide (nm = [105, 110, 116]) = x1
 generalize decide (nm = [98, 111, 111, 108]) = x2
 generalize decide (nm = [117, 110, 105, 116]) = x3
 generalize decide (nm = [101, 120, 110]) = x4
 generalize decide (nm = [114, 101, 102]) = x5
 generalize decide (nm = [45, 62]) = x6
 generalize decide (nm = [42]) = x7
 generalize lowB nm = x8
 cases x1 <;> cases x2 <;> cases x3 <;> cases x4 <;> cases x5 <;> cases x6 <;> cases x7 <;> cases x8 <;> rfl
theorem Q6e (t : Pat) (s : St) (hn : t.name.length < 2^62) : cw (.f Q0E) [t.enc] s = some (.ret (.val (.int .i64 (wrongPatB t))), s) := by
 obtain ⟨k, a, nm, n, l, nl⟩ := t
 rw [Q7I]
 have hk : k = 1 ∨ k = 2 ∨ k = 3 ∨ k = 4 ∨ k = 5 ∨ k = 6 ∨ (k < 1 ∨ k > 6) := by omega
 rcases hk with rfl | rfl | rfl | rfl | rfl | rfl | hk
 rotate_left 6
 ·simp only [go_sem, Nat.reduceAdd, decide_eq_false (show ¬ k = 1 by omega), decide_eq_false (show ¬ k = 2 by omega), decide_eq_false (show ¬ k = 3 by omega), decide_eq_false (show ¬ k = 4 by omega), decide_eq_false (show ¬ k = 5 by omega), decide_eq_false (show ¬ k = 6 by omega)]
  have : (decide (k < 1) || decide (k > 6)) = true := by simpa using hk
  have e : wrongPatB (Pat.mk k a nm n l nl) = 29 := by
   show (bif (decide (k < 1) || decide (k > 6)) then (29 : Int) else _) = 29
   rw [this]; rfl
  rw [e]
 all_goals
  simp only [go_sem, Int.reduceEq, Int.reduceGT, Int.reduceLT, Nat.reduceAdd, Nat.reduceLeDiff, Q5r, Q0u nm _ hn, Q1w nm _ hn, Q3Z, wrongPatB, patLM, Pat.kind, Pat.name, Pat.n, Pat.kids]
  try rfl
theorem Q6b (c : Con) (s : St) (hn : c.name.length < 2^62) : cw (.f Q1H) [c.enc] s = some (.ret (.val (.int .i64 (wrongConB c))), s) := by
 rw [Q7G]
 simp only [go_sem, Nat.reduceAdd, Nat.reduceLeDiff, Con.cells, Ty.cells_eq, Q2N _ _ hn]
 rfl
theorem Q6d (e : Exp) (s : St) (hn : e.name.length < 2^62) : cw (.f Q1I) [e.enc] s = some (.ret (.val (.int .i64 (wrongExpB e))), s) := by
 obtain ⟨k, a, nm, n, l, lb, c, cb, d, db⟩ := e
 rw [Q7H]
 have hk : k = 1 ∨ k = 2 ∨ k = 3 ∨ k = 4 ∨ k = 5 ∨ k = 6 ∨ k = 7 ∨ k = 8 ∨ k = 9 ∨ k = 10 ∨ k = 11 ∨ k = 12 ∨ k = 13 ∨ k = 14 ∨ k = 15 ∨ k = 16 ∨ k = 17 ∨ k = 18 ∨ k = 19 ∨ k = 20 ∨ (k < 1 ∨ k > 20) := by omega
 rcases hk with rfl | rfl | rfl | rfl | rfl | rfl | rfl | rfl | rfl | rfl | rfl | rfl | rfl | rfl | rfl | rfl | rfl | rfl | rfl | rfl | hk
 rotate_left 20
 ·simp only [go_sem, Nat.reduceAdd, Nat.reduceLeDiff, Q4v, decide_eq_false (show ¬ k = 1 by omega), decide_eq_false (show ¬ k = 2 by omega), decide_eq_false (show ¬ k = 3 by omega), decide_eq_false (show ¬ k = 4 by omega), decide_eq_false (show ¬ k = 5 by omega), decide_eq_false (show ¬ k = 6 by omega), decide_eq_false (show ¬ k = 7 by omega), decide_eq_false (show ¬ k = 8 by omega), decide_eq_false (show ¬ k = 9 by omega), decide_eq_false (show ¬ k = 10 by omega), decide_eq_false (show ¬ k = 11 by omega), decide_eq_false (show ¬ k = 12 by omega), decide_eq_false (show ¬ k = 13 by omega), decide_eq_false (show ¬ k = 14 by omega), decide_eq_false (show ¬ k = 15 by omega), decide_eq_false (show ¬ k = 16 by omega), decide_eq_false (show ¬ k = 17 by omega), decide_eq_false (show ¬ k = 18 by omega), decide_eq_false (show ¬ k = 19 by omega), decide_eq_false (show ¬ k = 20 by omega)]
  have h : (decide (k < 1) || decide (k > 20)) = true := by simpa using hk
  have e : wrongExpB (Exp.mk k a nm n l lb c cb d db) = 29 := by
   show (bif (decide (k < 1) || decide (k > 20) || _ || _ || _ || _ || _) then (29 : Int) else _) = 29
   rw [h]; rfl
  rw [e]
 all_goals
  simp only [go_sem, Int.reduceEq, Int.reduceGT, Int.reduceLT, Nat.reduceAdd, Nat.reduceLeDiff, Q4v, Q0u nm _ hn, Q1w nm _ hn, Q3Z, wrongExpB, expLM, Exp.kind, Exp.name, Exp.n, Exp.kids, Exp.cases, Exp.decs]
  try rfl
theorem Q6c (d : Dec) (inn : Bool) (a : Int) (r : List AV) (s : St) (hn : d.name.length < 2^62) : cw (.f Zf) [.agg [.cp (d.cells ++ r), .bool inn, .nilp, .nilp, .nilp, .nilp, .nilp, .int .i64 a]] s = some (.ret (.val (.int .i64 (wrongDecB d inn))), s) := by
 obtain ⟨k, at_, nm, p, l, nb, c, cb, f, fb⟩ := d
 rw [Q4e]
 simp only [go_sem, Nat.reduceAdd, Q0u nm _ hn, Q31]
 show _ = some (Out.ret (.val (.int .i64 (wrongDecC k nm p l.length c.length f.length inn))), s)
 delta wrongDecC
 generalize decide (k = 1) = x1
 generalize decide (k = 2) = x2
 generalize decide (k = 3) = x3
 generalize decide (k = 4) = x4
 cases x1 <;> cases x2 <;> cases x3 <;> cases x4 <;> rfl
end Go.Proofs.Ytoahliipbclneaa
namespace Go.Proofs.Ytoahliipbclneaa
open Go Go.Am
set_option linter.unusedVariables false
set_option maxRecDepth 4000
theorem Q4Z (nd : TNode) (r : List AV) (s : St) : cw (.f Q13) [nd.thing r] s = some (.ret (.val (.bool nd.isNode)), s) := by
 rw [Q6a]
 cases nd <;> simp only [go_sem, Nat.reduceAdd, TNode.thing, TNode.isNode]
theorem Q4x (nd : TNode) (r : List AV) (s : St) (h : nd.name.length < 2^40) : cw (.f ZM) [nd.thing r] s = some (.ret (.val nd.bad.enc), s) := by
 rw [Q5o]
 have key : ∀ (e a : Int) (nm : Str) (v : List Slot) (s : St), v.getD 7 .und = .val (.int .i64 a) → v.length = 8 → Qp v [.val (.int .i64 0), .val (.int .i64 0), .val (.str [])] (.val (.int .i64 e)) (.val (.str nm)) s = some (.ret (.val (mkBad e a nm).enc), s) := by
  intro e a nm v s hv hl
  have hd : (v.drop 7).take 1 = [.val (.int .i64 a)] := by
   match v, hl with
   | [_, _, _, _, _, _, _, x], _ => simpa using hv
  rw [Q4f]
  by_cases h0 : e = 0
  ·subst h0
   simp only [go_sem, Int.reduceEq, Nat.reduceAdd, Nat.reduceLeDiff, hd]
   rfl
  ·by_cases h8 : e = 8
   ·subst h8
    simp only [go_sem, Int.reduceEq, Nat.reduceAdd, Nat.reduceLeDiff, hd]
    rfl
   ·simp only [go_sem, Nat.reduceAdd, Nat.reduceLeDiff, hd, decide_eq_false h0, decide_eq_false h8, mkBad]
    rfl
 cases nd with
 | dec inn d =>
   have hn : d.name.length < 2^62 := by simp only [TNode.name] at h; omega
   have hw := fun s => Q6c d inn d.at_ r s hn
   obtain ⟨k, a, nm, p, l, nb, c, cb, f, fb⟩ := d
   simp only [go_sem, Exp.enc, Pat.enc, Ty.enc, Dec.enc] at hw
   simp only [go_sem, Nat.reduceAdd, Nat.reduceLeDiff, TNode.thing, hw]
   exact key _ _ _ _ _ rfl rfl
 | exp e =>
   have hn : e.name.length < 2^62 := by simp only [TNode.name] at h; omega
   have hw := fun s => Q6d e s hn
   obtain ⟨k, a, nm, n, l, lb, c, cb, d, db⟩ := e
   simp only [go_sem, Exp.enc, Pat.enc, Ty.enc, Dec.enc] at hw
   simp only [go_sem, Nat.reduceAdd, Nat.reduceLeDiff, TNode.thing, hw]
   exact key _ _ _ _ _ rfl rfl
 | pat e =>
   have hn : e.name.length < 2^62 := by simp only [TNode.name] at h; omega
   have hw := fun s => Q6e e s hn
   obtain ⟨k, a, nm, n, l, lb⟩ := e
   simp only [go_sem, Exp.enc, Pat.enc, Ty.enc, Dec.enc] at hw
   simp only [go_sem, Nat.reduceAdd, Nat.reduceLeDiff, TNode.thing, hw]
   exact key _ _ _ _ _ rfl rfl
 | ty e a =>
   have hn : e.name.length < 2^62 := by simp only [TNode.name] at h; omega
   have hw := fun s => Q6A e s hn
   obtain ⟨k, n, nm, l, lb⟩ := e
   simp only [go_sem, Exp.enc, Pat.enc, Ty.enc, Dec.enc] at hw
   simp only [go_sem, Nat.reduceAdd, Nat.reduceLeDiff, TNode.thing, hw]
   exact key _ _ _ _ _ rfl rfl
 | fn f =>
   have hn : f.name.length < 2^62 := by simp only [TNode.name] at h; omega
   have hw := fun s => Q0u f.name s hn
   obtain ⟨nm, a, c⟩ := f
   simp only [Fun.name] at hw
   have k0 := fun v s h1 h2 => key 0 a nm v s h1 h2
   have k8 := fun v s h1 h2 => key 8 a nm v s h1 h2
   simp only [go_sem, Nat.reduceAdd, Nat.reduceLeDiff, TNode.thing, hw, Fun.at_]
   show _ = some (Out.ret (.val (mkBad (bif !lowB nm then 8 else 0) a nm).enc), s)
   cases lowB nm
   ·simp only [go_sem]; exact key 8 a nm _ s rfl rfl
   ·simp only [go_sem]; exact key 0 a nm _ s rfl rfl
 | con c =>
   have hn : c.name.length < 2^62 := by simp only [TNode.name] at h; omega
   have hw := fun s => Q6b c s hn
   obtain ⟨nm, a, hs, arg⟩ := c
   simp only [go_sem, Con.enc, Con.cells] at hw
   simp only [go_sem, Nat.reduceAdd, Nat.reduceLeDiff, TNode.thing, Con.cells, hw]
   exact key _ _ _ _ _ rfl rfl
end Go.Proofs.Ytoahliipbclneaa
namespace Go.Proofs.Ytoahliipbclneaa
open Go Go.Am
set_option linter.unusedVariables false
set_option maxRecDepth 4000
theorem Q3u (L : List Ty) (x : Slot) (hx : x.list? = some (L.map Ty.enc)) (hl : L.length < 2^40) : ∀ (suf pre : List Ty) (n : Int) (s : St) (i : Nat), pre ++ suf = L → i = pre.length → (∀ t ∈ suf, ∀ s, cw (.f ZE) [t.enc] s = some (.ret (.val (.int .i64 (deepTy t))), s)) → 0 ≤ n → n < 2^40 → Ty.sizes suf < 2^40 →
  Q0g (.val (.int .i64 n)) x (.val (.int .i64 L.length)) (.val (.int .i64 i)) s = some (.ret (.val (.int .i64 (deepTys suf n + 1))), s)
 | [], pre, n, s, i, h, hi, H, h0, h1, h2 => by
   subst hi
   rw [Q2S]; simp only [go_sem, Qa (by simpa using h)]
   rw [wrap64 (by omega) (by omega)]; rfl
 | t :: suf, pre, n, s, i, h, hi, H, h0, h1, h2 => by
   subst hi
   obtain ⟨f1, f2, f3⟩ := Q9 hx h (by omega) (Ty.cells_len t) (by decide)
   have ht := Q3N t
   have hm := Zi n (deepTy t) (2^40 - 1)
   have hn := Zh n (deepTy t)
   simp only [Ty.sizes] at h2
   rw [Q2S]; simp only [go_sem, Nat.reduceAdd, Nat.reduceLeDiff, f1, f2, f3, H t (List.mem_cons_self)]
   exact Q3u L x hx hl suf (pre ++ [t]) _ s _ (by simpa using h) (by simp) (fun u hu => H u (List.mem_cons_of_mem _ hu)) (by omega) (by omega) (by omega)
theorem Q3v : ∀ (m : Nat) (t : Ty) (s : St), t.size ≤ m → t.size < 2^40 → cw (.f ZE) [t.enc] s = some (.ret (.val (.int .i64 (deepTy t))), s)
 | 0, .mk _ _ _ _ _, _, h, _ => by simp only [Ty.size] at h; omega
 | m + 1, .mk k n nm l nl, s, h, h' => by
   simp only [Ty.size] at h h'
   have hl := Ty.len_sizes l
   rw [Q9r]; simp only [go_sem, Nat.reduceAdd, Nat.reduceLeDiff, Ty.enc]
   exact Q3u l _ (by simp only [go_sem]) (by omega) l [] 0 s 0 rfl rfl (fun u hu s => by have := Ty.mem_sizes hu; exact Q3v m u s (by omega) (by omega)) (by omega) (by omega) (by omega)
theorem Q2Q (L : List Pat) (x : Slot) (hx : x.list? = some (L.map Pat.enc)) (hl : L.length < 2^40) : ∀ (suf pre : List Pat) (n : Int) (s : St) (i : Nat), pre ++ suf = L → i = pre.length → (∀ t ∈ suf, ∀ s, cw (.f Zv) [t.enc] s = some (.ret (.val (.int .i64 (deepPat t))), s)) → 0 ≤ n → n < 2^40 → Pat.sizes suf < 2^40 →
  ZT (.val (.int .i64 n)) x (.val (.int .i64 L.length)) (.val (.int .i64 i)) s = some (.ret (.val (.int .i64 (deepPats suf n + 1))), s)
 | [], pre, n, s, i, h, hi, H, h0, h1, h2 => by
   subst hi
   rw [Q2z]; simp only [go_sem, Qa (by simpa using h)]
   rw [wrap64 (by omega) (by omega)]; rfl
 | t :: suf, pre, n, s, i, h, hi, H, h0, h1, h2 => by
   subst hi
   obtain ⟨f1, f2, f3⟩ := Q9 hx h (by omega) (Pat.cells_len t) (by decide)
   have ht := Q1Q t
   have hm := Zi n (deepPat t) (2^40 - 1)
   have hn := Zh n (deepPat t)
   simp only [Pat.sizes] at h2
   rw [Q2z]; simp only [go_sem, Nat.reduceAdd, Nat.reduceLeDiff, f1, f2, f3, H t (List.mem_cons_self)]
   exact Q2Q L x hx hl suf (pre ++ [t]) _ s _ (by simpa using h) (by simp) (fun u hu => H u (List.mem_cons_of_mem _ hu)) (by omega) (by omega) (by omega)
theorem Q2R : ∀ (m : Nat) (t : Pat) (s : St), t.size ≤ m → t.size < 2^40 → cw (.f Zv) [t.enc] s = some (.ret (.val (.int .i64 (deepPat t))), s)
 | 0, .mk _ _ _ _ _ _, _, h, _ => by simp only [Pat.size] at h; omega
 | m + 1, .mk k a nm n l nl, s, h, h' => by
   simp only [Pat.size] at h h'
   have hl := Pat.len_sizes l
   rw [Q8M]; simp only [go_sem, Nat.reduceAdd, Nat.reduceLeDiff, Pat.enc]
   exact Q2Q l _ (by simp only [go_sem]) (by omega) l [] 0 s 0 rfl rfl (fun u hu s => by have := Pat.mem_sizes hu; exact Q2R m u s (by omega) (by omega)) (by omega) (by omega) (by omega)
def deepExpOK (t : Exp) : Prop := ∀ s, cw (.f Q02) [t.enc] s = some (.ret (.val (.int .i64 (deepExp t))), s)
def deepCasesOK (l : List Case) : Prop := ∀ (v : AV) (s : St), (Slot.val v).list? = some (l.map Case.enc) → cw (.f QQ) [v] s = some (.ret (.val (.int .i64 (deepCases l 0))), s)
def deepDecsOK (l : List Dec) : Prop := ∀ (v : AV) (s : St), (Slot.val v).list? = some (l.map Dec.enc) → cw (.f QL) [v] s = some (.ret (.val (.int .i64 (deepDecs l 0))), s)
theorem Q2P (L : List Exp) (x : Slot) (hx : x.list? = some (L.map Exp.enc)) (hl : L.length < 2^40) : ∀ (suf pre : List Exp) (n : Int) (s : St) (i : Nat), pre ++ suf = L → i = pre.length → (∀ t ∈ suf, deepExpOK t) → 0 ≤ n → n < 2^40 → Exp.sizes suf < 2^40 →
  ZS (.val (.int .i64 n)) x (.val (.int .i64 L.length)) (.val (.int .i64 i)) s = some (.ret (.val (.int .i64 (deepExps suf n + 1))), s)
 | [], pre, n, s, i, h, hi, H, h0, h1, h2 => by
   subst hi
   rw [Q2y]; simp only [go_sem, Qa (by simpa using h)]
   rw [wrap64 (by omega) (by omega)]; rfl
 | t :: suf, pre, n, s, i, h, hi, H, h0, h1, h2 => by
   subst hi
   obtain ⟨f1, f2, f3⟩ := Q9 hx h (by omega) (Exp.cells_len t) (by decide)
   have ht := Q1P t
   have hm := Zi n (deepExp t) (2^40 - 1)
   have hn := Zh n (deepExp t)
   simp only [Exp.sizes] at h2
   rw [Q2y]; simp only [go_sem, Nat.reduceAdd, Nat.reduceLeDiff, f1, f2, f3, H t (List.mem_cons_self) s]
   exact Q2P L x hx hl suf (pre ++ [t]) _ s _ (by simpa using h) (by simp) (fun u hu => H u (List.mem_cons_of_mem _ hu)) (by omega) (by omega) (by omega)
theorem Q0C (L : List Case) (x : Slot) (hx : x.list? = some (L.map Case.enc)) (hl : L.length < 2^40) : ∀ (suf pre : List Case) (n : Int) (s : St) (i : Nat), pre ++ suf = L → i = pre.length → (∀ t ∈ suf, deepExpOK t.exp) → 0 ≤ n → n < 2^40 → Case.sizes suf < 2^40 →
  Zp (.val (.int .i64 n)) x (.val (.int .i64 L.length)) (.val (.int .i64 i)) s = some (.ret (.val (.int .i64 (deepCases suf n))), s)
 | [], pre, n, s, i, h, hi, H, h0, h1, h2 => by
   subst hi
   rw [Q1W]; simp only [go_sem, Qa (by simpa using h)]; rfl
 | .mk p e :: suf, pre, n, s, i, h, hi, H, h0, h1, h2 => by
   subst hi
   obtain ⟨f1, f2, f3⟩ := Q9 hx h (by omega) (Case.cells_len (.mk p e)) (by decide)
   have ht := Q1P e
   have hp := Q1Q p
   simp only [Case.sizes, Case.size] at h2
   have h4 := Zh n (deepPat p)
   have h5 := Zh (maxI n (deepPat p)) (deepExp e)
   have h6 := Zi n (deepPat p) (2^40 - 1) (by omega) (by omega)
   have h7 := Zi (maxI n (deepPat p)) (deepExp e) (2^40 - 1) (by omega) (by omega)
   have He : deepExpOK e := H (.mk p e) (List.mem_cons_self)
   rw [Q1W]; simp only [go_sem, Nat.reduceAdd, Nat.reduceLeDiff, Nat.reduceSub, f1, f2, f3, Q2R _ p _ (Nat.le_refl _) (show p.size < 2^40 by omega), He s]
   exact Q0C L x hx hl suf (pre ++ [.mk p e]) _ s _ (by simpa using h) (by simp) (fun u hu => H u (List.mem_cons_of_mem _ hu)) (by omega) (by omega) (by omega)
theorem Q0f (L : List Con) (x : Slot) (hx : x.list? = some (L.map Con.enc)) (hl : L.length < 2^40) (y1 x11 x12 : Slot) (n0 : Int) (j : Nat) : ∀ (suf pre : List Con) (n : Int) (s : St) (i : Nat), pre ++ suf = L → i = pre.length → 0 ≤ n → n < 2^40 → Con.sizes suf < 2^40 → j < 2^40 →
  Z8 (.val (.int .i64 n0)) (.val (.int .i64 n)) x11 x12 (.val (.int .i64 j)) x (.val (.int .i64 L.length)) (.val (.int .i64 i)) s = QR (.val (.int .i64 (maxI n0 (deepCons suf n + 1)))) x11 x12 (.val (.int .i64 (j + 1 : Nat))) s
 | [], pre, n, s, i, h, hi, h0, h1, h2, hj => by
   subst hi
   rw [Q21]; simp only [go_sem, Qa (by simpa using h)]
   rw [wrap64 (n := n + 1) (by omega) (by omega), wrap64 (by omega) (by omega)]; rfl
 | c :: suf, pre, n, s, i, h, hi, h0, h1, h2, hj => by
   subst hi
   obtain ⟨f1, f2, f3⟩ := Q9 hx h (by omega) (Con.cells_len c) (by decide)
   have ht := Q3N c.arg
   simp only [Con.sizes, Con.size] at h2
   have hm := Zi n (deepTy c.arg) (2^40 - 1)
   have hn := Zh n (deepTy c.arg)
   obtain ⟨nm, a, hs, arg⟩ := c
   dsimp only at ht hm hn h2
   rw [Q21]; simp only [go_sem, Nat.reduceAdd, Nat.reduceLeDiff, f1, f2, f3, Con.cells]
   cases hs with
   | false =>
     simp only [go_sem]
     exact Q0f L x hx hl y1 x11 x12 n0 j suf (pre ++ [_]) n s _ (by simpa using h) (by simp) (by omega) (by omega) (by omega) hj
   | true =>
     simp only [go_sem, Q3v _ arg _ (Nat.le_refl _) (show arg.size < 2^40 by omega)]
     exact Q0f L x hx hl y1 x11 x12 n0 j suf (pre ++ [_]) _ s _ (by simpa using h) (by simp) (by omega) (by omega) (by omega) hj
theorem Q1x (L : List Fun) (x : Slot) (hx : x.list? = some (L.map Fun.enc)) (hl : L.length < 2^40) (d : Dec) (x11 x12 : Slot) (n0 : Int) (j : Nat) (hd : Con.sizes d.cons < 2^40) : ∀ (suf pre : List Fun) (n : Int) (s : St) (i : Nat), pre ++ suf = L → i = pre.length → (∀ t ∈ suf, deepCasesOK [t.case]) → 0 ≤ n → n < 2^40 → Fun.sizes suf < 2^40 → j < 2^40 →
  ZD (.val (.int .i64 n0)) (d.cells.map .val) (.val (.int .i64 n)) x11 x12 (.val (.int .i64 j)) x (.val (.int .i64 L.length)) (.val (.int .i64 i)) s = QR (.val (.int .i64 (maxI n0 (deepCons d.cons (deepFuns suf n) + 1)))) x11 x12 (.val (.int .i64 (j + 1 : Nat))) s
 | [], pre, n, s, i, h, hi, H, h0, h1, h2, hj => by
   subst hi
   have hc := Con.len_sizes d.cons
   rw [Q20]; simp only [go_sem, Qa (by simpa using h), Dec.cells_eq]
   exact Q0f d.cons _ (by simp only [go_sem]) (by omega) x x11 x12 n0 j d.cons [] n s 0 rfl rfl h0 h1 hd hj
 | .mk nm a c :: suf, pre, n, s, i, h, hi, H, h0, h1, h2, hj => by
   subst hi
   obtain ⟨f1, f2, f3⟩ := Q9 hx h (by omega) (Fun.cells_len (.mk nm a c)) (by decide)
   have ht := Q6F c
   simp only [Fun.sizes, Fun.size] at h2
   have hm := Zi n (deepCase c) (2^40 - 1)
   have hn := Zh n (deepCase c)
   have hc : ∀ s, cw (.f QQ) [.sl [c.enc]] s = some (.ret (.val (.int .i64 (deepCase c))), s) := fun s => by
    rw [H (.mk nm a c) (List.mem_cons_self) (.sl [c.enc]) s (by simp only [go_sem]; rfl)]
    obtain ⟨p, e⟩ := c
    simp only [Fun.case, deepCases, deepCase]
   rw [Q20]; simp only [go_sem, Nat.reduceAdd, Nat.reduceLeDiff, f1, f2, f3, hc]
   exact Q1x L x hx hl d x11 x12 n0 j hd suf (pre ++ [_]) _ s _ (by simpa using h) (by simp) (fun u hu => H u (List.mem_cons_of_mem _ hu)) (by omega) (by omega) (by omega) hj
theorem Q0O (L : List Dec) (x : Slot) (hx : x.list? = some (L.map Dec.enc)) (hl : L.length < 2^40) : ∀ (suf pre : List Dec) (n : Int) (s : St) (i : Nat), pre ++ suf = L → i = pre.length → (∀ d ∈ suf, deepCasesOK d.case ∧ ∀ f ∈ d.funs, deepCasesOK [f.case]) → 0 ≤ n → n < 2^40 → Dec.sizes suf < 2^40 →
  QR (.val (.int .i64 n)) x (.val (.int .i64 L.length)) (.val (.int .i64 i)) s = some (.ret (.val (.int .i64 (deepDecs suf n))), s)
 | [], pre, n, s, i, h, hi, H, h0, h1, h2 => by
   subst hi
   rw [Q1Z]; simp only [go_sem, Qa (by simpa using h)]; rfl
 | .mk k a nm p l nb c cb f fb :: suf, pre, n, s, i, h, hi, H, h0, h1, h2 => by
   subst hi
   obtain ⟨f1, f2, f3⟩ := Q9 hx h (by omega) (Dec.cells_len (.mk k a nm p l nb c cb f fb)) (by decide)
   obtain ⟨hC, hF⟩ := H (.mk k a nm p l nb c cb f fb) (List.mem_cons_self)
   simp only [Dec.case, Dec.funs] at hC hF
   simp only [Dec.sizes, Dec.size] at h2
   have g1 := Q09 c 0
   have g2 := Q1a f (deepCases c 0)
   have g3 := Q2j l (deepFuns f (deepCases c 0))
   have g5 := Zh n (deepCons l (deepFuns f (deepCases c 0)) + 1)
   have g6 := Zi n (deepCons l (deepFuns f (deepCases c 0)) + 1) (2^40 - 1) (by omega) (by omega)
   have g7 := Fun.len_sizes f
   have hlen : pre.length < L.length := by rw [← h]; simp
   have hc1 := fun s => hC (encS cb (c.map Case.enc)) s (by simp only [go_sem])
   rw [Q1Z]; simp only [go_sem, Nat.reduceAdd, Nat.reduceLeDiff, f1, f2, hc1]
   have := Q1x f (.val (encS fb (f.map Fun.enc))) (by simp only [go_sem]) (by omega) (.mk k a nm p l nb c cb f fb) x (.val (.int .i64 L.length)) n pre.length (by simp only [Dec.cons]; omega) f [] (deepCases c 0) s 0 rfl rfl hF (by omega) (by omega) (by omega) (by omega)
   simp only [go_sem, Dec.cons] at this
   rw [show ((0 : Nat) : Int) = 0 from rfl] at this
   rw [this]
   exact Q0O L x hx hl suf (pre ++ [_]) _ s _ (by simpa using h) (by simp) (fun u hu => H u (List.mem_cons_of_mem _ hu)) (by omega) (by omega) (by omega)
theorem QaF : ∀ m : Nat, (∀ e : Exp, e.size ≤ m → e.size < 2^40 → deepExpOK e) ∧ (∀ l : List Case, Case.sizes l ≤ m → Case.sizes l < 2^40 → deepCasesOK l) ∧ (∀ l : List Dec, Dec.sizes l ≤ m → Dec.sizes l < 2^40 → deepDecsOK l) := by
 intro m
 induction m with
 | zero =>
   refine ⟨fun e h _ => ?_, fun l h _ v s hv => ?_, fun l h _ v s hv => ?_⟩
   ·obtain ⟨k, a, nm, n, l, lb, c, cb, d, db⟩ := e
    simp only [Exp.size] at h; omega
   ·cases l with
    | cons c l => obtain ⟨p, e⟩ := c; simp only [Case.sizes, Case.size] at h; omega
    | nil =>
      rw [Q2O]; simp only [go_sem, hv]
      exact Q0C [] _ hv (by decide) [] [] 0 s 0 rfl rfl (by simp) (by decide) (by decide) (by simp only [Case.sizes]; decide)
   ·cases l with
    | cons c l => obtain ⟨k, a, nm, p, l, nb, c, cb, f, fb⟩ := c; simp only [Dec.sizes, Dec.size] at h; omega
    | nil =>
      rw [Q3t]; simp only [go_sem, hv]
      exact Q0O [] _ hv (by decide) [] [] 0 s 0 rfl rfl (by simp) (by decide) (by decide) (by simp only [Dec.sizes]; decide)
 | succ m ih =>
   obtain ⟨ihE, ihC, ihD⟩ := ih
   have hC : ∀ l : List Case, Case.sizes l ≤ m + 1 → Case.sizes l < 2^40 → deepCasesOK l := fun l h h' v s hv => by
    have := Case.len_sizes l
    rw [Q2O]; simp only [go_sem, hv]
    exact Q0C l _ hv (by omega) l [] 0 s 0 rfl rfl (fun t ht => ihE t.exp (by have := Case.mem_sizes ht; obtain ⟨p, e⟩ := t; simp only [Case.size, Case.exp] at *; omega) (by have := Case.mem_sizes ht; obtain ⟨p, e⟩ := t; simp only [Case.size, Case.exp] at *; omega)) (by decide) (by decide) h'
   refine ⟨fun e h h' s => ?_, hC, fun l h h' v s hv => ?_⟩
   ·obtain ⟨k, a, nm, n, l, lb, c, cb, d, db⟩ := e
    simp only [Exp.size] at h h'
    have hl := Exp.len_sizes l
    have g1 := Q2k d 0
    have g2 := Q09 c 0
    have g3 := Zi (deepDecs d 0) (deepCases c 0) (2^40 - 1) (by omega) (by omega)
    have g4 := Zh (deepDecs d 0) (deepCases c 0)
    have hD := fun s => ihD d (by omega) (by omega) (encS db (d.map Dec.enc)) s (by simp only [go_sem])
    have hCc := fun s => ihC c (by omega) (by omega) (encS cb (c.map Case.enc)) s (by simp only [go_sem])
    rw [Q8L]; simp only [go_sem, Nat.reduceAdd, Nat.reduceLeDiff, Exp.enc, hD, hCc]
    exact Q2P l _ (by simp only [go_sem]) (by omega) l [] _ s 0 rfl rfl (fun t ht => ihE t (by have := Exp.mem_sizes ht; omega) (by have := Exp.mem_sizes ht; omega)) (by omega) (by omega) (by omega)
   ·have := Dec.len_sizes l
    rw [Q3t]; simp only [go_sem, hv]
    refine Q0O l _ hv (by omega) l [] 0 s 0 rfl rfl (fun t ht => ?_) (by decide) (by decide) h'
    have h1 := Dec.mem_sizes ht
    obtain ⟨k, a, nm, p, l, nb, c, cb, f, fb⟩ := t
    simp only [Dec.size] at h1
    refine ⟨ihC c (by omega) (by omega), fun g hg => ?_⟩
    have h2 := Fun.mem_sizes hg
    obtain ⟨nm, a, c'⟩ := g
    simp only [Dec.funs, Fun.size] at h2
    exact ihC [c'] (by simp only [Case.sizes]; omega) (by simp only [Case.sizes]; omega)
theorem Q69 (l : List Dec) (nl : Bool) (s : St) (h : Dec.sizes l < 2^40) : cw (.f QL) [encS nl (l.map Dec.enc)] s = some (.ret (.val (.int .i64 (deepDecs l 0))), s) := (QaF (Dec.sizes l)).2.2 l (Nat.le_refl _) h _ s (by simp only [go_sem])
end Go.Proofs.Ytoahliipbclneaa
namespace Go.Proofs.Ytoahliipbclneaa
open Go Go.Am
set_option linter.unusedVariables false
set_option maxRecDepth 4000
section
variable {σ : Type} (step : TNode → σ → σ × Bool)
def walk : List TNode → σ → σ × Bool
 | [], st => (st, true)
 | n :: l, st => bif (step n st).2 then walk l (step n st).1 else step n st
theorem Q0q (a b : List TNode) (st : σ) : walk step (a ++ b) st = bif (walk step a st).2 then walk step b (walk step a st).1 else walk step a st := by
 induction a generalizing st with
 | nil => rfl
 | cons n a ih =>
   simp only [List.cons_append, walk]
   cases h : (step n st).2
   ·simp only [cond_false, h]
   ·simp only [cond_true]; exact ih _
variable (R : σ × Bool → St → Prop) (P : TNode → Prop) (loc : Nat)
def YOK : Prop := ∀ nd r st s, P nd → R (st, true) s → ∃ s', cw (.y loc) [nd.thing r] s = some (.ret (.val (.bool (step nd st).2)), s') ∧ R (step nd st) s'
def WOK (f : Nat) (args : List AV) (l : List TNode) : Prop := (∀ n ∈ l, P n) → ∀ st s, R (st, true) s → ∃ s', cw (.f f) args s = some (.ret (.val (.bool (walk step l st).2)), s') ∧ R (walk step l st) s'
abbrev wk : AV := .agg [.yld loc]
variable {step} {R} {P} {loc}
theorem Z1 {st : σ × Bool} {s' : St} (hb : st.2 = true) (h : R st s') : R (st.1, true) s' := by rw [← hb]; exact h
theorem Q2T (hY : YOK step R P loc) (a : Int) (t : Ty) (r : List AV) (hl : t.args.length < 2^40) : ∀ (suf pre : List Ty) (st : σ) (s : St) (i : Nat), pre ++ suf = t.args → i = pre.length → (∀ u ∈ suf, ∀ r, WOK step R P QO [wk loc, .cp (u.cells ++ r), .int .i64 a] (nodesTy a u)) → (∀ n ∈ nodesTys a suf, P n) → R (st, true) s →
  ∃ s', QX (.val (.cp (t.cells ++ r))) (.val (.int .i64 a)) [.val (.yld loc)] (.val (.int .i64 t.args.length)) (.val (.int .i64 i)) s = some (.ret (.val (.bool (walk step (nodesTys a suf) st).2)), s') ∧ R (walk step (nodesTys a suf) st) s'
 | [], pre, st, s, i, h, hi, H, hP, hR => by
   subst hi
   rw [Q11]; simp only [go_sem, Nat.reduceAdd, Nat.reduceLeDiff, Qa (by simpa using h), nodesTys, walk]
   exact ⟨s, rfl, hR⟩
 | u :: suf, pre, st, s, i, h, hi, H, hP, hR => by
   subst hi
   obtain ⟨f1, f2, f3⟩ := Q9 (x := .val (encS t.nl (t.args.map Ty.enc))) (Qk _ _) h (by omega) (Ty.cells_len u) (by decide)
   simp only [nodesTys] at hP ⊢
   obtain ⟨s1, e1, g1⟩ := H u (List.mem_cons_self) [] (fun n hn => hP n (List.mem_append_left _ hn)) st s hR
   rw [Q11]
   rw [Q0q]
   cases hb : (walk step (nodesTy a u) st).2 with
   | false =>
     rw [hb] at e1
     simp only [go_sem, Nat.reduceAdd, Nat.reduceLeDiff, Ty.cells_eq, f1] at e1 f2 ⊢
     simp only [go_sem, Nat.reduceAdd, Nat.reduceLeDiff, f2, e1, hb]
     exact ⟨s1, rfl, g1⟩
   | true =>
     rw [hb] at e1
     obtain ⟨s2, e2, g2⟩ := Q2T hY a t r hl suf (pre ++ [u]) (walk step (nodesTy a u) st).1 s1 (pre.length + 1) (by simpa using h) (by simp) (fun w hw => H w (List.mem_cons_of_mem _ hw)) (fun n hn => hP n (List.mem_append_right _ hn)) (Z1 hb g1)
     refine ⟨s2, ?_, g2⟩
     rw [cond_true, ← e2]
     simp only [go_sem, Nat.reduceAdd, Nat.reduceLeDiff, Ty.cells_eq, f1] at e1 f2 ⊢
     simp only [go_sem, Nat.reduceAdd, Nat.reduceLeDiff, f2, e1, f3]
theorem Q2U (hY : YOK step R P loc) : ∀ (m : Nat) (a : Int) (t : Ty) (r : List AV), t.size ≤ m → t.size < 2^40 → WOK step R P QO [wk loc, .cp (t.cells ++ r), .int .i64 a] (nodesTy a t)
 | 0, a, .mk _ _ _ _ _, _, h, _ => by simp only [Ty.size] at h; omega
 | m + 1, a, .mk k n nm l nl, r, h, h' => fun hP st s hR => by
   simp only [Ty.size] at h h'
   have hl := Ty.len_sizes l
   simp only [nodesTy] at hP ⊢
   obtain ⟨s1, e1, g1⟩ := hY (.ty (.mk k n nm l nl) a) r st s (hP _ (List.mem_cons_self)) hR
   rw [Q50]
   simp only [walk]
   cases hb : (step (.ty (.mk k n nm l nl) a) st).2 with
   | false =>
     rw [hb] at e1
     simp only [go_sem, Nat.reduceAdd, Nat.reduceLeDiff, TNode.thing] at e1 ⊢
     simp only [go_sem, e1, hb]
     exact ⟨s1, rfl, g1⟩
   | true =>
     rw [hb] at e1
     obtain ⟨s2, e2, g2⟩ := Q2T hY a (.mk k n nm l nl) r (by simp only [Ty.args]; omega) l [] (step (.ty (.mk k n nm l nl) a) st).1 s1 0 rfl rfl (fun u hu r => by have := Ty.mem_sizes hu; exact Q2U hY m a u r (by omega) (by omega)) (fun n hn => hP n (List.mem_cons_of_mem _ hn)) (Z1 hb g1)
     refine ⟨s2, ?_, g2⟩
     rw [cond_true, ← e2]
     simp only [go_sem, Nat.reduceAdd, Nat.reduceLeDiff, TNode.thing] at e1 ⊢
     simp only [go_sem, e1, Ty.args]
     rfl
theorem Q3y (hY : YOK step R P loc) (t : Pat) (r : List AV) (hl : t.kids.length < 2^40) : ∀ (suf pre : List Pat) (st : σ) (s : St) (i : Nat), pre ++ suf = t.kids → i = pre.length → (∀ u ∈ suf, ∀ r, WOK step R P QT [wk loc, .cp (u.cells ++ r)] (nodesPat u)) → (∀ n ∈ nodesPats suf, P n) → R (st, true) s →
  ∃ s', Z6 (.val (.cp (t.cells ++ r))) [.val (.yld loc)] (.val (.int .i64 t.kids.length)) (.val (.int .i64 i)) s = some (.ret (.val (.bool (walk step (nodesPats suf) st).2)), s') ∧ R (walk step (nodesPats suf) st) s'
 | [], pre, st, s, i, h, hi, H, hP, hR => by
   subst hi
   rw [Q1k]; simp only [go_sem, Nat.reduceAdd, Nat.reduceLeDiff, Qa (by simpa using h), nodesPats, walk]
   exact ⟨s, rfl, hR⟩
 | u :: suf, pre, st, s, i, h, hi, H, hP, hR => by
   subst hi
   obtain ⟨f1, f2, f3⟩ := Q9 (x := .val (encS t.kb (t.kids.map Pat.enc))) (Qk _ _) h (by omega) (Pat.cells_len u) (by decide)
   simp only [nodesPats] at hP ⊢
   obtain ⟨s1, e1, g1⟩ := H u (List.mem_cons_self) [] (fun n hn => hP n (List.mem_append_left _ hn)) st s hR
   rw [Q1k]
   rw [Q0q]
   cases hb : (walk step (nodesPat u) st).2 with
   | false =>
     rw [hb] at e1
     simp only [go_sem, Nat.reduceAdd, Nat.reduceLeDiff, Pat.cells_eq, f1] at e1 f2 ⊢
     simp only [go_sem, Nat.reduceAdd, Nat.reduceLeDiff, f2, e1, hb]
     exact ⟨s1, rfl, g1⟩
   | true =>
     rw [hb] at e1
     obtain ⟨s2, e2, g2⟩ := Q3y hY t r hl suf (pre ++ [u]) (walk step (nodesPat u) st).1 s1 (pre.length + 1) (by simpa using h) (by simp) (fun w hw => H w (List.mem_cons_of_mem _ hw)) (fun n hn => hP n (List.mem_append_right _ hn)) (Z1 hb g1)
     refine ⟨s2, ?_, g2⟩
     rw [cond_true, ← e2]
     simp only [go_sem, Nat.reduceAdd, Nat.reduceLeDiff, Pat.cells_eq, f1] at e1 f2 ⊢
     simp only [go_sem, Nat.reduceAdd, Nat.reduceLeDiff, f2, e1, f3]
theorem Q3z (hY : YOK step R P loc) : ∀ (m : Nat) (t : Pat) (r : List AV), t.size ≤ m → t.size < 2^40 → WOK step R P QT [wk loc, .cp (t.cells ++ r)] (nodesPat t)
 | 0, .mk _ _ _ _ _ _, _, h, _ => by simp only [Pat.size] at h; omega
 | m + 1, .mk k a nm n l nl, r, h, h' => fun hP st s hR => by
   simp only [Pat.size] at h h'
   have hl := Pat.len_sizes l
   simp only [nodesPat] at hP ⊢
   obtain ⟨s1, e1, g1⟩ := hY (.pat (.mk k a nm n l nl)) r st s (hP _ (List.mem_cons_self)) hR
   rw [Q5q]
   simp only [walk]
   cases hb : (step (.pat (.mk k a nm n l nl)) st).2 with
   | false =>
     rw [hb] at e1
     simp only [go_sem, Nat.reduceAdd, Nat.reduceLeDiff, TNode.thing, Pat.at_] at e1 ⊢
     simp only [go_sem, e1, hb]
     exact ⟨s1, rfl, g1⟩
   | true =>
     rw [hb] at e1
     obtain ⟨s2, e2, g2⟩ := Q3y hY (.mk k a nm n l nl) r (by simp only [Pat.kids]; omega) l [] (step (.pat (.mk k a nm n l nl)) st).1 s1 0 rfl rfl (fun u hu r => by have := Pat.mem_sizes hu; exact Q3z hY m u r (by omega) (by omega)) (fun n hn => hP n (List.mem_cons_of_mem _ hn)) (Z1 hb g1)
     refine ⟨s2, ?_, g2⟩
     rw [cond_true, ← e2]
     simp only [go_sem, Nat.reduceAdd, Nat.reduceLeDiff, TNode.thing, Pat.at_] at e1 ⊢
     simp only [go_sem, e1, Pat.kids]
     rfl
def WExp (step : TNode → σ → σ × Bool) (R : σ × Bool → St → Prop) (P : TNode → Prop) (loc : Nat) (t : Exp) : Prop := ∀ r, WOK step R P Zc [wk loc, .cp (t.cells ++ r)] (nodesExp t)
def WCases (step : TNode → σ → σ × Bool) (R : σ × Bool → St → Prop) (P : TNode → Prop) (loc : Nat) (l : List Case) : Prop := ∀ v, (Slot.val v).list? = some (l.map Case.enc) → WOK step R P QN [wk loc, v] (nodesCases l)
def WDecs (step : TNode → σ → σ × Bool) (R : σ × Bool → St → Prop) (P : TNode → Prop) (loc : Nat) (l : List Dec) : Prop := ∀ v inn, (Slot.val v).list? = some (l.map Dec.enc) → WOK step R P QG [wk loc, v, .bool inn] (nodesDecs inn l)
theorem Q14 (hY : YOK step R P loc) (L : List Case) (x : Slot) (hx : x.list? = some (L.map Case.enc)) (hl : L.length < 2^40) : ∀ (suf pre : List Case) (st : σ) (s : St) (i : Nat), pre ++ suf = L → i = pre.length → (∀ u ∈ suf, WExp step R P loc u.exp ∧ u.size < 2^40) → (∀ n ∈ nodesCases suf, P n) → R (st, true) s →
  ∃ s', QW x [.val (.yld loc)] (.val (.int .i64 L.length)) (.val (.int .i64 i)) s = some (.ret (.val (.bool (walk step (nodesCases suf) st).2)), s') ∧ R (walk step (nodesCases suf) st) s'
 | [], pre, st, s, i, h, hi, H, hP, hR => by
   subst hi
   rw [Q10]; simp only [go_sem, Nat.reduceAdd, Nat.reduceLeDiff, Qa (by simpa using h), nodesCases, walk]
   exact ⟨s, rfl, hR⟩
 | .mk p e :: suf, pre, st, s, i, h, hi, H, hP, hR => by
   subst hi
   obtain ⟨f1, f2, f3⟩ := Q9 hx h (by omega) (Case.cells_len (.mk p e)) (by decide)
   simp only [nodesCases, nodesCase] at hP ⊢
   obtain ⟨hE, hsz⟩ := H (.mk p e) (List.mem_cons_self)
   simp only [Case.exp, Case.size] at hE hsz
   obtain ⟨s1, e1, g1⟩ := Q3z hY _ p e.cells (Nat.le_refl _) (by omega) (fun n hn => hP n (List.mem_append_left _ (List.mem_append_left _ hn))) st s hR
   rw [Q10]
   rw [Q0q, Q0q]
   cases hb : (walk step (nodesPat p) st).2 with
   | false =>
     rw [hb] at e1
     simp only [go_sem, Nat.reduceAdd, Nat.reduceLeDiff, f1, f2, e1, hb]
     exact ⟨s1, rfl, g1⟩
   | true =>
     rw [hb] at e1
     rw [cond_true]
     obtain ⟨s2, e2, g2⟩ := hE [] (fun n hn => hP n (List.mem_append_left _ (List.mem_append_right _ hn))) (walk step (nodesPat p) st).1 s1 (Z1 hb g1)
     cases hb2 : (walk step (nodesExp e) (walk step (nodesPat p) st).1).2 with
     | false =>
       rw [hb2] at e2
       simp only [go_sem] at e2
       simp only [go_sem, Nat.reduceAdd, Nat.reduceLeDiff, Nat.reduceSub, f1, f2, e1, e2, hb2]
       exact ⟨s2, rfl, g2⟩
     | true =>
       rw [hb2] at e2
       obtain ⟨s3, e3, g3⟩ := Q14 hY L x hx hl suf (pre ++ [.mk p e]) (walk step (nodesExp e) (walk step (nodesPat p) st).1).1 s2 (pre.length + 1) (by simpa using h) (by simp) (fun w hw => H w (List.mem_cons_of_mem _ hw)) (fun n hn => hP n (List.mem_append_right _ hn)) (Z1 hb2 g2)
       refine ⟨s3, ?_, g3⟩
       rw [cond_true, ← e3]
       simp only [go_sem] at e2
       simp only [go_sem, Nat.reduceAdd, Nat.reduceLeDiff, Nat.reduceSub, f1, f2, e1, e2, f3]
theorem Q3x (hY : YOK step R P loc) (t : Exp) (r : List AV) (hl : t.kids.length < 2^40) (HC : WCases step R P loc t.cases) : ∀ (suf pre : List Exp) (st : σ) (s : St) (i : Nat), pre ++ suf = t.kids → i = pre.length → (∀ u ∈ suf, WExp step R P loc u) → (∀ n ∈ nodesExps suf ++ nodesCases t.cases, P n) → R (st, true) s →
  ∃ s', Z5 (.val (.cp (t.cells ++ r))) [.val (.yld loc)] (.val (.int .i64 t.kids.length)) (.val (.int .i64 i)) s = some (.ret (.val (.bool (walk step (nodesExps suf ++ nodesCases t.cases) st).2)), s') ∧ R (walk step (nodesExps suf ++ nodesCases t.cases) st) s'
 | [], pre, st, s, i, h, hi, H, hP, hR => by
   subst hi
   simp only [nodesExps, List.nil_append] at hP ⊢
   obtain ⟨s1, e1, g1⟩ := HC (encS t.cb (t.cases.map Case.enc)) (by simp only [go_sem]) hP st s hR
   rw [Q1j]; simp only [go_sem, Nat.reduceAdd, Nat.reduceLeDiff, Exp.cells_eq, Qa (by simpa using h), e1]
   exact ⟨s1, rfl, g1⟩
 | u :: suf, pre, st, s, i, h, hi, H, hP, hR => by
   subst hi
   obtain ⟨f1, f2, f3⟩ := Q9 (x := .val (encS t.kb (t.kids.map Exp.enc))) (Qk _ _) h (by omega) (Exp.cells_len u) (by decide)
   simp only [nodesExps, List.append_assoc] at hP ⊢
   obtain ⟨s1, e1, g1⟩ := H u (List.mem_cons_self) [] (fun n hn => hP n (List.mem_append_left _ hn)) st s hR
   rw [Q1j]
   rw [Q0q]
   cases hb : (walk step (nodesExp u) st).2 with
   | false =>
     rw [hb] at e1
     simp only [go_sem, Nat.reduceAdd, Nat.reduceLeDiff, Exp.cells_eq, f1] at e1 f2 ⊢
     simp only [go_sem, Nat.reduceAdd, Nat.reduceLeDiff, f2, e1, hb]
     exact ⟨s1, rfl, g1⟩
   | true =>
     rw [hb] at e1
     obtain ⟨s2, e2, g2⟩ := Q3x hY t r hl HC suf (pre ++ [u]) (walk step (nodesExp u) st).1 s1 (pre.length + 1) (by simpa using h) (by simp) (fun w hw => H w (List.mem_cons_of_mem _ hw)) (fun n hn => hP n (List.mem_append_right _ hn)) (Z1 hb g1)
     refine ⟨s2, ?_, g2⟩
     rw [cond_true, ← e2]
     simp only [go_sem, Nat.reduceAdd, Nat.reduceLeDiff, Exp.cells_eq, f1] at e1 f2 ⊢
     simp only [go_sem, Nat.reduceAdd, Nat.reduceLeDiff, f2, e1, f3]
theorem QaL (hY : YOK step R P loc) (t : Exp) (hl : t.kids.length < 2^40) (HD : WDecs step R P loc t.decs) (HC : WCases step R P loc t.cases) (HE : ∀ u ∈ t.kids, WExp step R P loc u) : WExp step R P loc t := fun r hP st s hR => by
 obtain ⟨k, a, nm, n, l, lb, c, cb, d, db⟩ := t
 simp only [Exp.kids, Exp.cases, Exp.decs] at hl HD HC HE
 simp only [nodesExp] at hP ⊢
 obtain ⟨s1, e1, g1⟩ := hY (.exp (.mk k a nm n l lb c cb d db)) r st s (hP _ (List.mem_cons_self)) hR
 rw [Q5p]
 simp only [walk]
 cases hb : (step (.exp (.mk k a nm n l lb c cb d db)) st).2 with
 | false =>
   rw [hb] at e1
   simp only [go_sem, Nat.reduceAdd, Nat.reduceLeDiff, TNode.thing, Exp.at_] at e1 ⊢
   simp only [go_sem, e1, hb]
   exact ⟨s1, rfl, g1⟩
 | true =>
   rw [hb] at e1
   rw [cond_true, Q0q]
   obtain ⟨s2, e2, g2⟩ := HD (encS db (d.map Dec.enc)) true (by simp only [go_sem]) (fun n hn => hP n (List.mem_cons_of_mem _ (List.mem_append_left _ hn))) (step (.exp (.mk k a nm n l lb c cb d db)) st).1 s1 (Z1 hb g1)
   cases hb2 : (walk step (nodesDecs true d) (step (.exp (.mk k a nm n l lb c cb d db)) st).1).2 with
   | false =>
     rw [hb2] at e2
     simp only [go_sem, Nat.reduceAdd, Nat.reduceLeDiff, TNode.thing, Exp.at_] at e1 ⊢
     simp only [go_sem, e1, e2, hb2]
     exact ⟨s2, rfl, g2⟩
   | true =>
     rw [hb2] at e2
     obtain ⟨s3, e3, g3⟩ := Q3x hY (.mk k a nm n l lb c cb d db) r (by simp only [Exp.kids]; omega) HC l [] (walk step (nodesDecs true d) (step (.exp (.mk k a nm n l lb c cb d db)) st).1).1 s2 0 rfl rfl HE (fun n hn => hP n (List.mem_cons_of_mem _ (List.mem_append_right _ hn))) (Z1 hb2 g2)
     refine ⟨s3, ?_, g3⟩
     simp only [Exp.cases] at e3
     rw [cond_true, ← e3]
     simp only [go_sem, Nat.reduceAdd, Nat.reduceLeDiff, TNode.thing, Exp.at_] at e1 ⊢
     simp only [go_sem, e1, e2, Exp.kids]
     rfl
theorem Q0D (hY : YOK step R P loc) (d : Dec) (x1 x2 x14 : Slot) (j : Nat) (hj : j < 2^40) (hl : d.cons.length < 2^40) (hsz : Con.sizes d.cons < 2^40) (rest : List TNode)
  (K : ∀ st s, R (st, true) s → (∀ n ∈ rest, P n) → ∃ s', QF x1 x2 [.val (.yld loc)] x14 (.val (.int .i64 (j + 1 : Nat))) s = some (.ret (.val (.bool (walk step rest st).2)), s') ∧ R (walk step rest st) s') :
  ∀ (suf pre : List Con) (st : σ) (s : St) (i : Nat), pre ++ suf = d.cons → i = pre.length → Con.sizes suf < 2^40 → (∀ n ∈ nodesCons suf ++ rest, P n) → R (st, true) s →
  ∃ s', Z4 x1 x2 [.val (.yld loc)] (.val (.cp d.cells)) x14 (.val (.int .i64 j)) (.val (.int .i64 d.cons.length)) (.val (.int .i64 i)) s = some (.ret (.val (.bool (walk step (nodesCons suf ++ rest) st).2)), s') ∧ R (walk step (nodesCons suf ++ rest) st) s'
 | [], pre, st, s, i, h, hi, hz, hP, hR => by
   subst hi
   simp only [nodesCons, List.nil_append] at hP ⊢
   obtain ⟨s1, e1, g1⟩ := K st s hR hP
   refine ⟨s1, ?_, g1⟩
   rw [Q1i, ← e1]; simp only [go_sem, Nat.reduceAdd, Nat.reduceLeDiff, Qa (by simpa using h)]
   rw [wrap64 (by omega) (by omega)]; rfl
 | .mk nm a hs arg :: suf, pre, st, s, i, h, hi, hz, hP, hR => by
   subst hi
   obtain ⟨f1, f2, f3⟩ := Q9 (x := .val (encS d.nb (d.cons.map Con.enc))) (Qk _ _) h (by omega) (Con.cells_len ⟨nm, a, hs, arg⟩) (by decide)
   simp only [Con.sizes, Con.size] at hz
   simp only [nodesCons, nodesCon, List.append_assoc, List.cons_append] at hP ⊢
   obtain ⟨s1, e1, g1⟩ := hY (.con ⟨nm, a, hs, arg⟩) [] st s (hP _ (List.mem_cons_self)) hR
   rw [Q1i]
   simp only [walk]
   cases hb : (step (.con ⟨nm, a, hs, arg⟩) st).2 with
   | false =>
     rw [hb] at e1
     simp only [go_sem, Nat.reduceAdd, Nat.reduceLeDiff, Dec.cells_eq, Con.cells, TNode.thing, f1] at e1 f2 ⊢
     simp only [go_sem, Nat.reduceAdd, Nat.reduceLeDiff, f2, e1, hb]
     exact ⟨s1, rfl, g1⟩
   | true =>
     rw [hb] at e1
     rw [cond_true]
     cases hs with
     | false =>
       obtain ⟨s2, e2, g2⟩ := Q0D hY d x1 x2 x14 j hj hl hsz rest K suf (pre ++ [⟨nm, a, false, arg⟩]) (step (.con ⟨nm, a, false, arg⟩) st).1 s1 (pre.length + 1) (by simpa using h) (by simp) (by omega) (fun n hn => hP n (List.mem_cons_of_mem _ hn)) (Z1 hb g1)
       refine ⟨s2, ?_, g2⟩
       rw [cond_false, List.nil_append, ← e2]
       simp only [go_sem, Nat.reduceAdd, Nat.reduceLeDiff, Dec.cells_eq, Con.cells, TNode.thing, f1] at e1 f2 ⊢
       simp only [go_sem, Nat.reduceAdd, Nat.reduceLeDiff, f2, e1, f3]
     | true =>
       rw [cond_true, Q0q]
       rw [cond_true] at hP
       obtain ⟨s2, e2, g2⟩ := Q2U hY _ a arg [] (Nat.le_refl _) (by omega) (fun n hn => hP n (List.mem_cons_of_mem _ (List.mem_append_left _ hn))) (step (.con ⟨nm, a, true, arg⟩) st).1 s1 (Z1 hb g1)
       cases hb2 : (walk step (nodesTy a arg) (step (.con ⟨nm, a, true, arg⟩) st).1).2 with
       | false =>
         rw [hb2] at e2
         simp only [go_sem] at e2
         simp only [go_sem, Nat.reduceAdd, Nat.reduceLeDiff, Dec.cells_eq, Con.cells, TNode.thing, f1] at e1 f2 ⊢
         simp only [go_sem, Nat.reduceAdd, Nat.reduceLeDiff, f2, e1, e2, hb2]
         exact ⟨s2, rfl, g2⟩
       | true =>
         rw [hb2] at e2
         obtain ⟨s3, e3, g3⟩ := Q0D hY d x1 x2 x14 j hj hl hsz rest K suf (pre ++ [⟨nm, a, true, arg⟩]) (walk step (nodesTy a arg) (step (.con ⟨nm, a, true, arg⟩) st).1).1 s2 (pre.length + 1) (by simpa using h) (by simp) (by omega) (fun n hn => hP n (List.mem_cons_of_mem _ (List.mem_append_right _ hn))) (Z1 hb2 g2)
         refine ⟨s3, ?_, g3⟩
         rw [cond_true, ← e3]
         simp only [go_sem] at e2
         simp only [go_sem, Nat.reduceAdd, Nat.reduceLeDiff, Dec.cells_eq, Con.cells, TNode.thing, f1] at e1 f2 ⊢
         simp only [go_sem, Nat.reduceAdd, Nat.reduceLeDiff, f2, e1, e2, f3]
theorem Q23 (hY : YOK step R P loc) (d : Dec) (x1 x2 x14 : Slot) (j : Nat) (hj : j < 2^40) (hl0 : d.funs.length < 2^40) (hl : d.cons.length < 2^40) (hsz : Con.sizes d.cons < 2^40) (rest : List TNode)
  (K : ∀ st s, R (st, true) s → (∀ n ∈ rest, P n) → ∃ s', QF x1 x2 [.val (.yld loc)] x14 (.val (.int .i64 (j + 1 : Nat))) s = some (.ret (.val (.bool (walk step rest st).2)), s') ∧ R (walk step rest st) s') :
  ∀ (suf pre : List Fun) (st : σ) (s : St) (i : Nat), pre ++ suf = d.funs → i = pre.length → (∀ f ∈ suf, WCases step R P loc [f.case]) → (∀ n ∈ nodesFuns suf ++ (nodesCons d.cons ++ rest), P n) → R (st, true) s →
  ∃ s', Z3 x1 x2 [.val (.yld loc)] (.val (.cp d.cells)) x14 (.val (.int .i64 j)) (.val (.int .i64 d.funs.length)) (.val (.int .i64 i)) s = some (.ret (.val (.bool (walk step (nodesFuns suf ++ (nodesCons d.cons ++ rest)) st).2)), s') ∧ R (walk step (nodesFuns suf ++ (nodesCons d.cons ++ rest)) st) s'
 | [], pre, st, s, i, h, hi, H, hP, hR => by
   subst hi
   simp only [nodesFuns, List.nil_append] at hP ⊢
   obtain ⟨s1, e1, g1⟩ := Q0D hY d x1 x2 x14 j hj hl hsz rest K d.cons [] st s 0 rfl rfl hsz hP hR
   refine ⟨s1, ?_, g1⟩
   rw [Q1h, ← e1]; simp only [go_sem, Nat.reduceAdd, Nat.reduceLeDiff, Dec.cells_eq, Qa (by simpa using h)]
   rfl
 | .mk nm a c :: suf, pre, st, s, i, h, hi, H, hP, hR => by
   subst hi
   obtain ⟨f1, f2, f3⟩ := Q9 (x := .val (encS d.fb (d.funs.map Fun.enc))) (Qk _ _) h (by omega) (Fun.cells_len (.mk nm a c)) (by decide)
   simp only [nodesFuns, nodesFun, List.append_assoc, List.cons_append] at hP ⊢
   obtain ⟨s1, e1, g1⟩ := hY (.fn (.mk nm a c)) [] st s (hP _ (List.mem_cons_self)) hR
   rw [Q1h]
   simp only [walk]
   cases hb : (step (.fn (.mk nm a c)) st).2 with
   | false =>
     rw [hb] at e1
     simp only [go_sem, Nat.reduceAdd, Nat.reduceLeDiff, Dec.cells_eq, TNode.thing, Fun.at_, f1] at e1 f2 ⊢
     simp only [go_sem, Nat.reduceAdd, Nat.reduceLeDiff, f2, e1, hb]
     exact ⟨s1, rfl, g1⟩
   | true =>
     rw [hb] at e1
     rw [cond_true, Q0q]
     obtain ⟨s2, e2, g2⟩ := H (.mk nm a c) (List.mem_cons_self) (.sl [c.enc]) (by simp only [go_sem, Fun.case]) (fun n hn => hP n (List.mem_cons_of_mem _ (List.mem_append_left _ (by simpa [nodesCases, Fun.case] using hn)))) (step (.fn (.mk nm a c)) st).1 s1 (Z1 hb g1)
     simp only [Fun.case, nodesCases, List.append_nil] at e2 g2
     cases hb2 : (walk step (nodesCase c) (step (.fn (.mk nm a c)) st).1).2 with
     | false =>
       rw [hb2] at e2
       simp only [go_sem, Nat.reduceAdd, Nat.reduceLeDiff, Dec.cells_eq, TNode.thing, Fun.at_, f1] at e1 f2 ⊢
       simp only [go_sem, Nat.reduceAdd, Nat.reduceLeDiff, f2, e1, e2, hb2]
       exact ⟨s2, rfl, g2⟩
     | true =>
       rw [hb2] at e2
       obtain ⟨s3, e3, g3⟩ := Q23 hY d x1 x2 x14 j hj hl0 hl hsz rest K suf (pre ++ [.mk nm a c]) (walk step (nodesCase c) (step (.fn (.mk nm a c)) st).1).1 s2 (pre.length + 1) (by simpa using h) (by simp) (fun w hw => H w (List.mem_cons_of_mem _ hw)) (fun n hn => hP n (List.mem_cons_of_mem _ (List.mem_append_right _ hn))) (Z1 hb2 g2)
       refine ⟨s3, ?_, g3⟩
       rw [cond_true, ← e3]
       simp only [go_sem, Nat.reduceAdd, Nat.reduceLeDiff, Dec.cells_eq, TNode.thing, Fun.at_, f1] at e1 f2 ⊢
       simp only [go_sem, Nat.reduceAdd, Nat.reduceLeDiff, f2, e1, e2, f3]
theorem Q1s (hY : YOK step R P loc) (L : List Dec) (x : Slot) (hx : x.list? = some (L.map Dec.enc)) (inn : Bool) (hl : L.length < 2^40) : ∀ (suf pre : List Dec) (st : σ) (s : St) (i : Nat), pre ++ suf = L → i = pre.length → (∀ d ∈ suf, d.size < 2^40 ∧ WCases step R P loc d.case ∧ ∀ f ∈ d.funs, WCases step R P loc [f.case]) → (∀ n ∈ nodesDecs inn suf, P n) → R (st, true) s →
  ∃ s', QF x (.val (.bool inn)) [.val (.yld loc)] (.val (.int .i64 L.length)) (.val (.int .i64 i)) s = some (.ret (.val (.bool (walk step (nodesDecs inn suf) st).2)), s') ∧ R (walk step (nodesDecs inn suf) st) s'
 | [], pre, st, s, i, h, hi, H, hP, hR => by
   subst hi
   rw [Q1g]; simp only [go_sem, Nat.reduceAdd, Nat.reduceLeDiff, Qa (by simpa using h), nodesDecs, walk]
   exact ⟨s, rfl, hR⟩
 | .mk k a nm p l nb c cb f fb :: suf, pre, st, s, i, h, hi, H, hP, hR => by
   subst hi
   obtain ⟨f1, f2, f3⟩ := Q9 hx h (by omega) (Dec.cells_len (.mk k a nm p l nb c cb f fb)) (by decide)
   obtain ⟨hsz, HC, HF⟩ := H _ (List.mem_cons_self)
   simp only [Dec.case, Dec.funs, Dec.size] at hsz HC HF
   have q1 := Fun.len_sizes f
   have q2 := Con.len_sizes l
   have hlen : pre.length < L.length := by rw [← h]; simp
   simp only [nodesDecs, nodesDec, List.append_assoc, List.cons_append] at hP ⊢
   obtain ⟨s1, e1, g1⟩ := hY (.dec inn (.mk k a nm p l nb c cb f fb)) [] st s (hP _ (List.mem_cons_self)) hR
   rw [Q1g]
   simp only [walk]
   cases hb : (step (.dec inn (.mk k a nm p l nb c cb f fb)) st).2 with
   | false =>
     rw [hb] at e1
     simp only [go_sem, Nat.reduceAdd, Nat.reduceLeDiff, TNode.thing, Dec.at_, f1] at e1 f2 ⊢
     simp only [go_sem, Nat.reduceAdd, Nat.reduceLeDiff, f2, e1, hb]
     exact ⟨s1, rfl, g1⟩
   | true =>
     rw [hb] at e1
     rw [cond_true, Q0q]
     obtain ⟨s2, e2, g2⟩ := HC (encS cb (c.map Case.enc)) (by simp only [go_sem]) (fun n hn => hP n (List.mem_cons_of_mem _ (List.mem_append_left _ hn))) (step (.dec inn (.mk k a nm p l nb c cb f fb)) st).1 s1 (Z1 hb g1)
     cases hb2 : (walk step (nodesCases c) (step (.dec inn (.mk k a nm p l nb c cb f fb)) st).1).2 with
     | false =>
       rw [hb2] at e2
       simp only [go_sem, Nat.reduceAdd, Nat.reduceLeDiff, TNode.thing, Dec.at_, f1] at e1 f2 ⊢
       simp only [go_sem, Nat.reduceAdd, Nat.reduceLeDiff, f2, e1, e2, hb2]
       exact ⟨s2, rfl, g2⟩
     | true =>
       rw [hb2] at e2
       obtain ⟨s3, e3, g3⟩ := Q23 hY (.mk k a nm p l nb c cb f fb) x (.val (.bool inn)) (.val (.int .i64 L.length)) pre.length (by omega) (by simp only [Dec.funs]; omega) (by simp only [Dec.cons]; omega) (by simp only [Dec.cons]; omega) (nodesDecs inn suf)
        (fun st s hR hP => Q1s hY L x hx inn hl suf (pre ++ [.mk k a nm p l nb c cb f fb]) st s (pre.length + 1) (by simpa using h) (by simp) (fun w hw => H w (List.mem_cons_of_mem _ hw)) hP hR)
        f [] (walk step (nodesCases c) (step (.dec inn (.mk k a nm p l nb c cb f fb)) st).1).1 s2 0 rfl rfl HF (fun n hn => hP n (List.mem_cons_of_mem _ (List.mem_append_right _ hn))) (Z1 hb2 g2)
       refine ⟨s3, ?_, g3⟩
       simp only [Dec.cons] at e3
       rw [cond_true, ← e3]
       simp only [go_sem, Nat.reduceAdd, Nat.reduceLeDiff, TNode.thing, Dec.at_, f1] at e1 f2 ⊢
       simp only [go_sem, Nat.reduceAdd, Nat.reduceLeDiff, f2, e1, e2, Dec.funs]
       rfl
theorem Qdw (hY : YOK step R P loc) : ∀ m : Nat, (∀ e : Exp, e.size ≤ m → e.size < 2^40 → WExp step R P loc e) ∧ (∀ l : List Case, Case.sizes l ≤ m → Case.sizes l < 2^40 → WCases step R P loc l) ∧ (∀ l : List Dec, Dec.sizes l ≤ m → Dec.sizes l < 2^40 → WDecs step R P loc l) := by
 intro m
 induction m with
 | zero =>
   refine ⟨fun e h _ => ?_, fun l h _ v hv hP st s hR => ?_, fun l h _ v inn hv hP st s hR => ?_⟩
   ·obtain ⟨k, a, nm, n, l, lb, c, cb, d, db⟩ := e
    simp only [Exp.size] at h; omega
   ·cases l with
    | cons c l => obtain ⟨p, e⟩ := c; simp only [Case.sizes, Case.size] at h; omega
    | nil =>
      rw [Q1X]; simp only [go_sem, Nat.reduceAdd, hv]
      exact Q14 hY [] _ hv (by decide) [] [] st s 0 rfl rfl (by simp) hP hR
   ·cases l with
    | cons c l => obtain ⟨k, a, nm, p, l, nb, c, cb, f, fb⟩ := c; simp only [Dec.sizes, Dec.size] at h; omega
    | nil =>
      rw [Q22]; simp only [go_sem, Nat.reduceAdd, hv]
      exact Q1s hY [] _ hv inn (by decide) [] [] st s 0 rfl rfl (by simp) hP hR
 | succ m ih =>
   obtain ⟨ihE, ihC, ihD⟩ := ih
   refine ⟨fun e h h' => ?_, fun l h h' v hv hP st s hR => ?_, fun l h h' v inn hv hP st s hR => ?_⟩
   ·refine QaL hY e ?_ ?_ ?_ ?_ <;> obtain ⟨k, a, nm, n, l, lb, c, cb, d, db⟩ := e <;> simp only [Exp.size] at h h' <;> simp only [Exp.kids, Exp.cases, Exp.decs]
    ·have := Exp.len_sizes l; omega
    ·exact ihD d (by omega) (by omega)
    ·exact ihC c (by omega) (by omega)
    ·exact fun u hu => ihE u (by have := Exp.mem_sizes hu; omega) (by have := Exp.mem_sizes hu; omega)
   ·have := Case.len_sizes l
    rw [Q1X]; simp only [go_sem, Nat.reduceAdd, hv]
    refine Q14 hY l _ hv (by omega) l [] st s 0 rfl rfl (fun t ht => ?_) hP hR
    have h1 := Case.mem_sizes ht
    obtain ⟨p, e⟩ := t
    simp only [Case.size, Case.exp] at h1 ⊢
    exact ⟨ihE e (by omega) (by omega), by omega⟩
   ·have := Dec.len_sizes l
    rw [Q22]; simp only [go_sem, Nat.reduceAdd, hv]
    refine Q1s hY l _ hv inn (by omega) l [] st s 0 rfl rfl (fun t ht => ?_) hP hR
    have h1 := Dec.mem_sizes ht
    obtain ⟨k, a, nm, p, l, nb, c, cb, f, fb⟩ := t
    simp only [Dec.size, Dec.case, Dec.funs] at h1 ⊢
    refine ⟨by omega, ihC c (by omega) (by omega), fun g hg => ?_⟩
    have h2 := Fun.mem_sizes hg
    obtain ⟨nm, a, c'⟩ := g
    simp only [Fun.size, Fun.case] at h2 ⊢
    exact ihC [c'] (by simp only [Case.sizes]; omega) (by simp only [Case.sizes]; omega)
end
end Go.Proofs.Ytoahliipbclneaa