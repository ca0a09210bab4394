/- A part of the proof: STree1, STree2, STree3, STree4, STree5. -/
import Derived.Test.YtinphnakebeloaaM6
import Derived.Test.YtinphnakebeloaaM7
import Derived.Test.YtinphnakebeloaaM8
set_option linter.unusedVariables false
set_option linter.unusedSimpArgs false
namespace Go.Proofs.Ytinphnakebeloaa
open Go Go.Am
set_option linter.unusedVariables false
theorem Q5K (n : Int) (s : St) : cw (.f Q2L) [.int .u8 n] s = some (.ret (.val (.bool (smallB n))), s) := by
 rw [Qci]; simp only [go_sem]; rfl
theorem Q5H (n : Int) (s : St) : cw (.f Q2I) [.int .u8 n] s = some (.ret (.val (.bool (greatB n))), s) := by
 rw [Qce]; simp only [go_sem]; rfl
theorem Q5I (n : Int) (s : St) : cw (.f Q2J) [.int .i64 n] s = some (.ret (.val (.bool (isIntB n))), s) := by
 rw [Qcf]; simp only [go_sem, Int.reduceNeg]; rfl
theorem Qch (l : Str) (pre : Str) : ∀ (suf : Str) (s : St), pre ++ suf = l → l.length < 2^62 → Q2i (.val (.str l)) (.val (.int .i64 pre.length)) s = some (.ret (.val (.bool (restAll suf && decide (l.length ≤ 32)))), s) := by
 intro suf
 induction suf generalizing pre with
 | nil =>
   intro s h hl
   rw [List.append_nil] at h
   subst h
   rw [Q6n]; simp only [Qhj, Qhi, Qd1 QY, Q9B, Qcv, Q9G]
   rw [QhT (by simp)]
   simp only [go_sem]
   simp [restAll]
   omega
 | cons c suf ih =>
   intro s h hl
   have hc : l[pre.length]? = some c := by rw [← h]; simp
   have hlt : pre.length < l.length := by rw [← h]; simp
   have := ih (pre ++ [c]) s (by simp [h]) hl
   rw [Q6n]
   simp only [Qhj, Qhi, Qd1 QY, Q9B, Qcv, Q9G]
   rw [QhU (by simpa using hlt), Q9U QY hc]
   simp only [go_sem, Q5K, Q5H]
   rw [wrap64 (by omega) (by omega)]
   have e : (pre.length : Int) + 1 = ((pre ++ [c]).length : Int) := by simp
   rw [e, this]
   simp only [go_sem, restAll, List.all_cons, unrestB]
   cases (!smallB c.toNat && !greatB c.toNat && (decide ((c.toNat : Int) < 48) || decide ((c.toNat : Int) > 57)) && !decide ((c.toNat : Int) = 39)) <;> simp
theorem Q7j (l : Str) (s : St) (h0 : l ≠ []) (hl : l.length < 2^62) : cw (.f Q2K) [.str l] s = some (.ret (.val (.bool (runB l))), s) := by
 rw [Qe7]
 cases l with
 | nil => exact absurd rfl h0
 | cons c l => exact Qch (c :: l) [c] l s rfl hl
theorem Q6k (a b : Str) (s : St) (h : a.length < 4294967281) : cw (.f Q1C) [.str a, .str b] s = some (.ret (.val (.bool (Go.Lib.contains a b))), s) := by
 have e : C.ext Q1C = some extContains := by kernel_rfl
 rw [cw, Q5]; unfold callR; rw [e]; simp [extContains, h]
theorem Q4h (l : Str) (s : St) (hl : l.length < 2^62) : cw (.f Q1M) [.str l] s = some (.ret (.val (.bool (capB l))), s) := by
 rw [Qao]
 by_cases h0 : l = []
 ·subst h0; simp only [go_sem]; rfl
 ·simp only [go_sem, h0, Q5H, not_false_eq_true, Q8J QY h0, Q7j l s h0 hl]
  simp [capB, h0, headB]
theorem Q2A (l : Str) (s : St) (hl : l.length < 2^62) : cw (.f Q0s) [.str l] s = some (.ret (.val (.bool (conB l))), s) := by
 rw [Q7n]
 simp only [go_sem, Q4h l s hl]
 rfl
theorem Q1m (l : Str) (s : St) (hl : l.length < 2^62) : cw (.f Q19) [.str l] s = some (.ret (.val (.bool (lowB l))), s) := by
 rw [Qe6]
 by_cases h0 : l = []
 ·subst h0; simp only [go_sem]; rfl
 ·have hk : Q9t = wordsS := by decide +kernel
  have hc := fun b s => Q6k wordsS b s (by decide +kernel)
  simp only [go_sem, h0, Q5K, not_false_eq_true, Q8J QY h0, Q7j l s h0 hl, Qbm (C.ti Q2) [32] l (by simp; omega), Qbm (C.ti Q2) (32 :: l) [32] (by simp; omega), hk, hc]
  simp [lowB, h0, headB, Bool.and_assoc]
end Go.Proofs.Ytinphnakebeloaa
namespace Go.Proofs.Ytinphnakebeloaa
open Go Go.Am
set_option linter.unusedVariables false
set_option maxRecDepth 4000
theorem Q8y (t : Ty) (s : St) (hn : t.name.length < 2^62) : cw (.f Q0L) [t.enc] s = some (.ret (.val (.int .i64 (wrongTyB t))), s) := by
 obtain ⟨k, n, nm, l, nl⟩ := t
 rw [Qau]
 simp only [go_sem, Nat.reduceAdd, Nat.reduceLeDiff, Q8b, Q8c, Q1m nm _ hn]
 show _ = some (Out.ret (.val (.int .i64 (wrongTyC k n nm l.length))), s)
 delta wrongTyC tyLM
 generalize decide (nm = [105, 110, 116]) = x1
 generalize decide (nm = [98, 111, 111, 108]) = x2
 generalize decide (nm = [117, 110, 105, 116]) = x3
 generalize decide (nm = [101, 120, 110]) = x4
 generalize decide (nm = [114, 101, 102]) = x5
 generalize decide (nm = [45, 62]) = x6
 generalize decide (nm = [42]) = x7
 generalize lowB nm = x8
 cases x1 <;> cases x2 <;> cases x3 <;> cases x4 <;> cases x5 <;> cases x6 <;> cases x7 <;> cases x8 <;> rfl
theorem Q8a (t : Pat) (s : St) (hn : t.name.length < 2^62) : cw (.f Q1z) [t.enc] s = some (.ret (.val (.int .i64 (wrongPatB t))), s) := by
 obtain ⟨k, a, nm, n, l, nl⟩ := t
 rw [Q9q]
 have hk : k = 1 ∨ k = 2 ∨ k = 3 ∨ k = 4 ∨ k = 5 ∨ k = 6 ∨ (k < 1 ∨ k > 6) := by omega
 rcases hk with rfl | rfl | rfl | rfl | rfl | rfl | hk
 rotate_left 6
 ·simp only [go_sem, Nat.reduceAdd, decide_eq_false (show ¬ k = 1 by omega), decide_eq_false (show ¬ k = 2 by omega), decide_eq_false (show ¬ k = 3 by omega), decide_eq_false (show ¬ k = 4 by omega), decide_eq_false (show ¬ k = 5 by omega), decide_eq_false (show ¬ k = 6 by omega)]
  have : (decide (k < 1) || decide (k > 6)) = true := by simpa using hk
  have e : wrongPatB (Pat.mk k a nm n l nl) = 29 := by
   show (bif (decide (k < 1) || decide (k > 6)) then (29 : Int) else _) = 29
   rw [this]; rfl
  rw [e]
 all_goals
  simp only [go_sem, Int.reduceEq, Int.reduceGT, Int.reduceLT, Nat.reduceAdd, Nat.reduceLeDiff, Q7q, Q1m nm _ hn, Q2A nm _ hn, Q5I, wrongPatB, patLM, Pat.kind, Pat.name, Pat.n, Pat.kids]
  try rfl
theorem Q87 (c : Con) (s : St) (hn : c.name.length < 2^62) : cw (.f Q2M) [c.enc] s = some (.ret (.val (.int .i64 (wrongConB c))), s) := by
 rw [Q9o]
 simp only [go_sem, Nat.reduceAdd, Nat.reduceLeDiff, Con.cells, Ty.cells_eq, Q4h _ _ hn]
 rfl
theorem Q89 (e : Exp) (s : St) (hn : e.name.length < 2^62) : cw (.f Q2N) [e.enc] s = some (.ret (.val (.int .i64 (wrongExpB e))), s) := by
 obtain ⟨k, a, nm, n, l, lb, c, cb, d, db⟩ := e
 rw [Q9p]
 have hk : k = 1 ∨ k = 2 ∨ k = 3 ∨ k = 4 ∨ k = 5 ∨ k = 6 ∨ k = 7 ∨ k = 8 ∨ k = 9 ∨ k = 10 ∨ k = 11 ∨ k = 12 ∨ k = 13 ∨ k = 14 ∨ k = 15 ∨ k = 16 ∨ k = 17 ∨ k = 18 ∨ k = 19 ∨ k = 20 ∨ (k < 1 ∨ k > 20) := by omega
 rcases hk with rfl | rfl | rfl | rfl | rfl | rfl | rfl | rfl | rfl | rfl | rfl | rfl | rfl | rfl | rfl | rfl | rfl | rfl | rfl | rfl | hk
 rotate_left 20
 ·simp only [go_sem, Nat.reduceAdd, Nat.reduceLeDiff, Q6m, decide_eq_false (show ¬ k = 1 by omega), decide_eq_false (show ¬ k = 2 by omega), decide_eq_false (show ¬ k = 3 by omega), decide_eq_false (show ¬ k = 4 by omega), decide_eq_false (show ¬ k = 5 by omega), decide_eq_false (show ¬ k = 6 by omega), decide_eq_false (show ¬ k = 7 by omega), decide_eq_false (show ¬ k = 8 by omega), decide_eq_false (show ¬ k = 9 by omega), decide_eq_false (show ¬ k = 10 by omega), decide_eq_false (show ¬ k = 11 by omega), decide_eq_false (show ¬ k = 12 by omega), decide_eq_false (show ¬ k = 13 by omega), decide_eq_false (show ¬ k = 14 by omega), decide_eq_false (show ¬ k = 15 by omega), decide_eq_false (show ¬ k = 16 by omega), decide_eq_false (show ¬ k = 17 by omega), decide_eq_false (show ¬ k = 18 by omega), decide_eq_false (show ¬ k = 19 by omega), decide_eq_false (show ¬ k = 20 by omega)]
  have h : (decide (k < 1) || decide (k > 20)) = true := by simpa using hk
  have e : wrongExpB (Exp.mk k a nm n l lb c cb d db) = 29 := by
   show (bif (decide (k < 1) || decide (k > 20) || _ || _ || _ || _ || _) then (29 : Int) else _) = 29
   rw [h]; rfl
  rw [e]
 all_goals
  simp only [go_sem, Int.reduceEq, Int.reduceGT, Int.reduceLT, Nat.reduceAdd, Nat.reduceLeDiff, Q6m, Q1m nm _ hn, Q2A nm _ hn, Q5I, wrongExpB, expLM, Exp.kind, Exp.name, Exp.n, Exp.kids, Exp.cases, Exp.decs]
  try rfl
theorem Q88 (d : Dec) (inn : Bool) (a : Int) (r : List AV) (s : St) (hn : d.name.length < 2^62) : cw (.f ZO) [.agg [.cp (d.cells ++ r), .bool inn, .nilp, .nilp, .nilp, .nilp, .nilp, .int .i64 a]] s = some (.ret (.val (.int .i64 (wrongDecB d inn))), s) := by
 obtain ⟨k, at_, nm, p, l, nb, c, cb, f, fb⟩ := d
 rw [Q5W]
 simp only [go_sem, Nat.reduceAdd, Q1m nm _ hn, Q4v]
 show _ = some (Out.ret (.val (.int .i64 (wrongDecC k nm p l.length c.length f.length inn))), s)
 delta wrongDecC
 generalize decide (k = 1) = x1
 generalize decide (k = 2) = x2
 generalize decide (k = 3) = x3
 generalize decide (k = 4) = x4
 cases x1 <;> cases x2 <;> cases x3 <;> cases x4 <;> rfl
end Go.Proofs.Ytinphnakebeloaa
namespace Go.Proofs.Ytinphnakebeloaa
open Go Go.Am
set_option linter.unusedVariables false
set_option maxRecDepth 4000
theorem Q6Q (nd : TNode) (r : List AV) (s : St) : cw (.f Q24) [nd.thing r] s = some (.ret (.val (.bool nd.isNode)), s) := by
 rw [Q86]
 cases nd <;> simp only [go_sem, Nat.reduceAdd, TNode.thing, TNode.isNode]
theorem Q6o (nd : TNode) (r : List AV) (s : St) (h : nd.name.length < 2^40) : cw (.f Q0t) [nd.thing r] s = some (.ret (.val nd.bad.enc), s) := by
 rw [Q7o]
 have key : ∀ (e a : Int) (nm : Str) (v : List Slot) (s : St), v.getD 7 .und = .val (.int .i64 a) → v.length = 8 → Qx v [.val (.int .i64 0), .val (.int .i64 0), .val (.str [])] (.val (.int .i64 e)) (.val (.str nm)) s = some (.ret (.val (mkBad e a nm).enc), s) := by
  intro e a nm v s hv hl
  have hd : (v.drop 7).take 1 = [.val (.int .i64 a)] := by
   match v, hl with
   | [_, _, _, _, _, _, _, x], _ => simpa using hv
  rw [Q5X]
  by_cases h0 : e = 0
  ·subst h0
   simp only [go_sem, Int.reduceEq, Nat.reduceAdd, Nat.reduceLeDiff, hd]
   rfl
  ·by_cases h8 : e = 8
   ·subst h8
    simp only [go_sem, Int.reduceEq, Nat.reduceAdd, Nat.reduceLeDiff, hd]
    rfl
   ·simp only [go_sem, Nat.reduceAdd, Nat.reduceLeDiff, hd, decide_eq_false h0, decide_eq_false h8, mkBad]
    rfl
 cases nd with
 | dec inn d =>
   have hn : d.name.length < 2^62 := by simp only [TNode.name] at h; omega
   have hw := fun s => Q88 d inn d.at_ r s hn
   obtain ⟨k, a, nm, p, l, nb, c, cb, f, fb⟩ := d
   simp only [go_sem, Exp.enc, Pat.enc, Ty.enc, Dec.enc] at hw
   simp only [go_sem, Nat.reduceAdd, Nat.reduceLeDiff, TNode.thing, hw]
   exact key _ _ _ _ _ rfl rfl
 | exp e =>
   have hn : e.name.length < 2^62 := by simp only [TNode.name] at h; omega
   have hw := fun s => Q89 e s hn
   obtain ⟨k, a, nm, n, l, lb, c, cb, d, db⟩ := e
   simp only [go_sem, Exp.enc, Pat.enc, Ty.enc, Dec.enc] at hw
   simp only [go_sem, Nat.reduceAdd, Nat.reduceLeDiff, TNode.thing, hw]
   exact key _ _ _ _ _ rfl rfl
 | pat e =>
   have hn : e.name.length < 2^62 := by simp only [TNode.name] at h; omega
   have hw := fun s => Q8a e s hn
   obtain ⟨k, a, nm, n, l, lb⟩ := e
   simp only [go_sem, Exp.enc, Pat.enc, Ty.enc, Dec.enc] at hw
   simp only [go_sem, Nat.reduceAdd, Nat.reduceLeDiff, TNode.thing, hw]
   exact key _ _ _ _ _ rfl rfl
 | ty e a =>
   have hn : e.name.length < 2^62 := by simp only [TNode.name] at h; omega
   have hw := fun s => Q8y e s hn
   obtain ⟨k, n, nm, l, lb⟩ := e
   simp only [go_sem, Exp.enc, Pat.enc, Ty.enc, Dec.enc] at hw
   simp only [go_sem, Nat.reduceAdd, Nat.reduceLeDiff, TNode.thing, hw]
   exact key _ _ _ _ _ rfl rfl
 | fn f =>
   have hn : f.name.length < 2^62 := by simp only [TNode.name] at h; omega
   have hw := fun s => Q1m f.name s hn
   obtain ⟨nm, a, c⟩ := f
   simp only [Fun.name] at hw
   have k0 := fun v s h1 h2 => key 0 a nm v s h1 h2
   have k8 := fun v s h1 h2 => key 8 a nm v s h1 h2
   simp only [go_sem, Nat.reduceAdd, Nat.reduceLeDiff, TNode.thing, hw, Fun.at_]
   show _ = some (Out.ret (.val (mkBad (bif !lowB nm then 8 else 0) a nm).enc), s)
   cases lowB nm
   ·simp only [go_sem]; exact key 8 a nm _ s rfl rfl
   ·simp only [go_sem]; exact key 0 a nm _ s rfl rfl
 | con c =>
   have hn : c.name.length < 2^62 := by simp only [TNode.name] at h; omega
   have hw := fun s => Q87 c s hn
   obtain ⟨nm, a, hs, arg⟩ := c
   simp only [go_sem, Con.enc, Con.cells] at hw
   simp only [go_sem, Nat.reduceAdd, Nat.reduceLeDiff, TNode.thing, Con.cells, hw]
   exact key _ _ _ _ _ rfl rfl
end Go.Proofs.Ytinphnakebeloaa
namespace Go.Proofs.Ytinphnakebeloaa
open Go Go.Am
set_option linter.unusedVariables false
set_option maxRecDepth 4000
theorem Q55 (L : List Ty) (x : Slot) (hx : x.list? = some (L.map Ty.enc)) (hl : L.length < 2^40) : ∀ (suf pre : List Ty) (n : Int) (s : St) (i : Nat), pre ++ suf = L → i = pre.length → (∀ t ∈ suf, ∀ s, cw (.f Q0l) [t.enc] s = some (.ret (.val (.int .i64 (deepTy t))), s)) → 0 ≤ n → n < 2^40 → Ty.sizes suf < 2^40 →
  Q15 (.val (.int .i64 n)) x (.val (.int .i64 L.length)) (.val (.int .i64 i)) s = some (.ret (.val (.int .i64 (deepTys suf n + 1))), s)
 | [], pre, n, s, i, h, hi, H, h0, h1, h2 => by
   subst hi
   rw [Q4m]; simp only [go_sem, Q8 (by simpa using h)]
   rw [wrap64 (by omega) (by omega)]; rfl
 | t :: suf, pre, n, s, i, h, hi, H, h0, h1, h2 => by
   subst hi
   obtain ⟨f1, f2, f3⟩ := Q7 hx h (by omega) (Ty.cells_len t) (by decide)
   have ht := Q5q t
   have hm := ZR n (deepTy t) (2^40 - 1)
   have hn := ZQ n (deepTy t)
   simp only [Ty.sizes] at h2
   rw [Q4m]; simp only [go_sem, Nat.reduceAdd, Nat.reduceLeDiff, f1, f2, f3, H t (List.mem_cons_self)]
   exact Q55 L x hx hl suf (pre ++ [t]) _ s _ (by simpa using h) (by simp) (fun u hu => H u (List.mem_cons_of_mem _ hu)) (by omega) (by omega) (by omega)
theorem Q56 : ∀ (m : Nat) (t : Ty) (s : St), t.size ≤ m → t.size < 2^40 → cw (.f Q0l) [t.enc] s = some (.ret (.val (.int .i64 (deepTy t))), s)
 | 0, .mk _ _ _ _ _, _, h, _ => by simp only [Ty.size] at h; omega
 | m + 1, .mk k n nm l nl, s, h, h' => by
   simp only [Ty.size] at h h'
   have hl := Ty.len_sizes l
   rw [Qbh]; simp only [go_sem, Nat.reduceAdd, Nat.reduceLeDiff, Ty.enc]
   exact Q55 l _ (by simp only [go_sem]) (by omega) l [] 0 s 0 rfl rfl (fun u hu s => by have := Ty.mem_sizes hu; exact Q56 m u s (by omega) (by omega)) (by omega) (by omega) (by omega)
theorem Q4k (L : List Pat) (x : Slot) (hx : x.list? = some (L.map Pat.enc)) (hl : L.length < 2^40) : ∀ (suf pre : List Pat) (n : Int) (s : St) (i : Nat), pre ++ suf = L → i = pre.length → (∀ t ∈ suf, ∀ s, cw (.f Q08) [t.enc] s = some (.ret (.val (.int .i64 (deepPat t))), s)) → 0 ≤ n → n < 2^40 → Pat.sizes suf < 2^40 →
  Q0A (.val (.int .i64 n)) x (.val (.int .i64 L.length)) (.val (.int .i64 i)) s = some (.ret (.val (.int .i64 (deepPats suf n + 1))), s)
 | [], pre, n, s, i, h, hi, H, h0, h1, h2 => by
   subst hi
   rw [Q3Y]; simp only [go_sem, Q8 (by simpa using h)]
   rw [wrap64 (by omega) (by omega)]; rfl
 | t :: suf, pre, n, s, i, h, hi, H, h0, h1, h2 => by
   subst hi
   obtain ⟨f1, f2, f3⟩ := Q7 hx h (by omega) (Pat.cells_len t) (by decide)
   have ht := Q2U t
   have hm := ZR n (deepPat t) (2^40 - 1)
   have hn := ZQ n (deepPat t)
   simp only [Pat.sizes] at h2
   rw [Q3Y]; simp only [go_sem, Nat.reduceAdd, Nat.reduceLeDiff, f1, f2, f3, H t (List.mem_cons_self)]
   exact Q4k L x hx hl suf (pre ++ [t]) _ s _ (by simpa using h) (by simp) (fun u hu => H u (List.mem_cons_of_mem _ hu)) (by omega) (by omega) (by omega)
theorem Q4l : ∀ (m : Nat) (t : Pat) (s : St), t.size ≤ m → t.size < 2^40 → cw (.f Q08) [t.enc] s = some (.ret (.val (.int .i64 (deepPat t))), s)
 | 0, .mk _ _ _ _ _ _, _, h, _ => by simp only [Pat.size] at h; omega
 | m + 1, .mk k a nm n l nl, s, h, h' => by
   simp only [Pat.size] at h h'
   have hl := Pat.len_sizes l
   rw [Qar]; simp only [go_sem, Nat.reduceAdd, Nat.reduceLeDiff, Pat.enc]
   exact Q4k l _ (by simp only [go_sem]) (by omega) l [] 0 s 0 rfl rfl (fun u hu s => by have := Pat.mem_sizes hu; exact Q4l m u s (by omega) (by omega)) (by omega) (by omega) (by omega)
def deepExpOK (t : Exp) : Prop := ∀ s, cw (.f ZH) [t.enc] s = some (.ret (.val (.int .i64 (deepExp t))), s)
def deepCasesOK (l : List Case) : Prop := ∀ (v : AV) (s : St), (Slot.val v).list? = some (l.map Case.enc) → cw (.f Zh) [v] s = some (.ret (.val (.int .i64 (deepCases l 0))), s)
def deepDecsOK (l : List Dec) : Prop := ∀ (v : AV) (s : St), (Slot.val v).list? = some (l.map Dec.enc) → cw (.f Z9) [v] s = some (.ret (.val (.int .i64 (deepDecs l 0))), s)
theorem Q4j (L : List Exp) (x : Slot) (hx : x.list? = some (L.map Exp.enc)) (hl : L.length < 2^40) : ∀ (suf pre : List Exp) (n : Int) (s : St) (i : Nat), pre ++ suf = L → i = pre.length → (∀ t ∈ suf, deepExpOK t) → 0 ≤ n → n < 2^40 → Exp.sizes suf < 2^40 →
  Q0z (.val (.int .i64 n)) x (.val (.int .i64 L.length)) (.val (.int .i64 i)) s = some (.ret (.val (.int .i64 (deepExps suf n + 1))), s)
 | [], pre, n, s, i, h, hi, H, h0, h1, h2 => by
   subst hi
   rw [Q3X]; simp only [go_sem, Q8 (by simpa using h)]
   rw [wrap64 (by omega) (by omega)]; rfl
 | t :: suf, pre, n, s, i, h, hi, H, h0, h1, h2 => by
   subst hi
   obtain ⟨f1, f2, f3⟩ := Q7 hx h (by omega) (Exp.cells_len t) (by decide)
   have ht := Q2T t
   have hm := ZR n (deepExp t) (2^40 - 1)
   have hn := ZQ n (deepExp t)
   simp only [Exp.sizes] at h2
   rw [Q3X]; simp only [go_sem, Nat.reduceAdd, Nat.reduceLeDiff, f1, f2, f3, H t (List.mem_cons_self) s]
   exact Q4j L x hx hl suf (pre ++ [t]) _ s _ (by simpa using h) (by simp) (fun u hu => H u (List.mem_cons_of_mem _ hu)) (by omega) (by omega) (by omega)
theorem Q1x (L : List Case) (x : Slot) (hx : x.list? = some (L.map Case.enc)) (hl : L.length < 2^40) : ∀ (suf pre : List Case) (n : Int) (s : St) (i : Nat), pre ++ suf = L → i = pre.length → (∀ t ∈ suf, deepExpOK t.exp) → 0 ≤ n → n < 2^40 → Case.sizes suf < 2^40 →
  Q00 (.val (.int .i64 n)) x (.val (.int .i64 L.length)) (.val (.int .i64 i)) s = some (.ret (.val (.int .i64 (deepCases suf n))), s)
 | [], pre, n, s, i, h, hi, H, h0, h1, h2 => by
   subst hi
   rw [Q3b]; simp only [go_sem, Q8 (by simpa using h)]; rfl
 | .mk p e :: suf, pre, n, s, i, h, hi, H, h0, h1, h2 => by
   subst hi
   obtain ⟨f1, f2, f3⟩ := Q7 hx h (by omega) (Case.cells_len (.mk p e)) (by decide)
   have ht := Q2T e
   have hp := Q2U p
   simp only [Case.sizes, Case.size] at h2
   have h4 := ZQ n (deepPat p)
   have h5 := ZQ (maxI n (deepPat p)) (deepExp e)
   have h6 := ZR n (deepPat p) (2^40 - 1) (by omega) (by omega)
   have h7 := ZR (maxI n (deepPat p)) (deepExp e) (2^40 - 1) (by omega) (by omega)
   have He : deepExpOK e := H (.mk p e) (List.mem_cons_self)
   rw [Q3b]; simp only [go_sem, Nat.reduceAdd, Nat.reduceLeDiff, Nat.reduceSub, f1, f2, f3, Q4l _ p _ (Nat.le_refl _) (show p.size < 2^40 by omega), He s]
   exact Q1x L x hx hl suf (pre ++ [.mk p e]) _ s _ (by simpa using h) (by simp) (fun u hu => H u (List.mem_cons_of_mem _ hu)) (by omega) (by omega) (by omega)
theorem Q14 (L : List Con) (x : Slot) (hx : x.list? = some (L.map Con.enc)) (hl : L.length < 2^40) (y1 x11 x12 : Slot) (n0 : Int) (j : Nat) : ∀ (suf pre : List Con) (n : Int) (s : St) (i : Nat), pre ++ suf = L → i = pre.length → 0 ≤ n → n < 2^40 → Con.sizes suf < 2^40 → j < 2^40 →
  ZJ (.val (.int .i64 n0)) (.val (.int .i64 n)) x11 x12 (.val (.int .i64 j)) x (.val (.int .i64 L.length)) (.val (.int .i64 i)) s = Zi (.val (.int .i64 (maxI n0 (deepCons suf n + 1)))) x11 x12 (.val (.int .i64 (j + 1 : Nat))) s
 | [], pre, n, s, i, h, hi, h0, h1, h2, hj => by
   subst hi
   rw [Q3o]; simp only [go_sem, Q8 (by simpa using h)]
   rw [wrap64 (n := n + 1) (by omega) (by omega), wrap64 (by omega) (by omega)]; rfl
 | c :: suf, pre, n, s, i, h, hi, h0, h1, h2, hj => by
   subst hi
   obtain ⟨f1, f2, f3⟩ := Q7 hx h (by omega) (Con.cells_len c) (by decide)
   have ht := Q5q c.arg
   simp only [Con.sizes, Con.size] at h2
   have hm := ZR n (deepTy c.arg) (2^40 - 1)
   have hn := ZQ n (deepTy c.arg)
   obtain ⟨nm, a, hs, arg⟩ := c
   dsimp only at ht hm hn h2
   rw [Q3o]; simp only [go_sem, Nat.reduceAdd, Nat.reduceLeDiff, f1, f2, f3, Con.cells]
   cases hs with
   | false =>
     simp only [go_sem]
     exact Q14 L x hx hl y1 x11 x12 n0 j suf (pre ++ [_]) n s _ (by simpa using h) (by simp) (by omega) (by omega) (by omega) hj
   | true =>
     simp only [go_sem, Q56 _ arg _ (Nat.le_refl _) (show arg.size < 2^40 by omega)]
     exact Q14 L x hx hl y1 x11 x12 n0 j suf (pre ++ [_]) _ s _ (by simpa using h) (by simp) (by omega) (by omega) (by omega) hj
theorem Q2B (L : List Fun) (x : Slot) (hx : x.list? = some (L.map Fun.enc)) (hl : L.length < 2^40) (d : Dec) (x11 x12 : Slot) (n0 : Int) (j : Nat) (hd : Con.sizes d.cons < 2^40) : ∀ (suf pre : List Fun) (n : Int) (s : St) (i : Nat), pre ++ suf = L → i = pre.length → (∀ t ∈ suf, deepCasesOK [t.case]) → 0 ≤ n → n < 2^40 → Fun.sizes suf < 2^40 → j < 2^40 →
  Q0i (.val (.int .i64 n0)) (d.cells.map .val) (.val (.int .i64 n)) x11 x12 (.val (.int .i64 j)) x (.val (.int .i64 L.length)) (.val (.int .i64 i)) s = Zi (.val (.int .i64 (maxI n0 (deepCons d.cons (deepFuns suf n) + 1)))) x11 x12 (.val (.int .i64 (j + 1 : Nat))) s
 | [], pre, n, s, i, h, hi, H, h0, h1, h2, hj => by
   subst hi
   have hc := Con.len_sizes d.cons
   rw [Q3n]; simp only [go_sem, Q8 (by simpa using h), Dec.cells_eq]
   exact Q14 d.cons _ (by simp only [go_sem]) (by omega) x x11 x12 n0 j d.cons [] n s 0 rfl rfl h0 h1 hd hj
 | .mk nm a c :: suf, pre, n, s, i, h, hi, H, h0, h1, h2, hj => by
   subst hi
   obtain ⟨f1, f2, f3⟩ := Q7 hx h (by omega) (Fun.cells_len (.mk nm a c)) (by decide)
   have ht := Q8B c
   simp only [Fun.sizes, Fun.size] at h2
   have hm := ZR n (deepCase c) (2^40 - 1)
   have hn := ZQ n (deepCase c)
   have hc : ∀ s, cw (.f Zh) [.sl [c.enc]] s = some (.ret (.val (.int .i64 (deepCase c))), s) := fun s => by
    rw [H (.mk nm a c) (List.mem_cons_self) (.sl [c.enc]) s (by simp only [go_sem]; rfl)]
    obtain ⟨p, e⟩ := c
    simp only [Fun.case, deepCases, deepCase]
   rw [Q3n]; simp only [go_sem, Nat.reduceAdd, Nat.reduceLeDiff, f1, f2, f3, hc]
   exact Q2B L x hx hl d x11 x12 n0 j hd suf (pre ++ [_]) _ s _ (by simpa using h) (by simp) (fun u hu => H u (List.mem_cons_of_mem _ hu)) (by omega) (by omega) (by omega) hj
theorem Q1K (L : List Dec) (x : Slot) (hx : x.list? = some (L.map Dec.enc)) (hl : L.length < 2^40) : ∀ (suf pre : List Dec) (n : Int) (s : St) (i : Nat), pre ++ suf = L → i = pre.length → (∀ d ∈ suf, deepCasesOK d.case ∧ ∀ f ∈ d.funs, deepCasesOK [f.case]) → 0 ≤ n → n < 2^40 → Dec.sizes suf < 2^40 →
  Zi (.val (.int .i64 n)) x (.val (.int .i64 L.length)) (.val (.int .i64 i)) s = some (.ret (.val (.int .i64 (deepDecs suf n))), s)
 | [], pre, n, s, i, h, hi, H, h0, h1, h2 => by
   subst hi
   rw [Q3m]; simp only [go_sem, Q8 (by simpa using h)]; rfl
 | .mk k a nm p l nb c cb f fb :: suf, pre, n, s, i, h, hi, H, h0, h1, h2 => by
   subst hi
   obtain ⟨f1, f2, f3⟩ := Q7 hx h (by omega) (Dec.cells_len (.mk k a nm p l nb c cb f fb)) (by decide)
   obtain ⟨hC, hF⟩ := H (.mk k a nm p l nb c cb f fb) (List.mem_cons_self)
   simp only [Dec.case, Dec.funs] at hC hF
   simp only [Dec.sizes, Dec.size] at h2
   have g1 := Q0P c 0
   have g2 := Q2b f (deepCases c 0)
   have g3 := Q3J l (deepFuns f (deepCases c 0))
   have g5 := ZQ n (deepCons l (deepFuns f (deepCases c 0)) + 1)
   have g6 := ZR n (deepCons l (deepFuns f (deepCases c 0)) + 1) (2^40 - 1) (by omega) (by omega)
   have g7 := Fun.len_sizes f
   have hlen : pre.length < L.length := by rw [← h]; simp
   have hc1 := fun s => hC (encS cb (c.map Case.enc)) s (by simp only [go_sem])
   rw [Q3m]; simp only [go_sem, Nat.reduceAdd, Nat.reduceLeDiff, f1, f2, hc1]
   have := Q2B f (.val (encS fb (f.map Fun.enc))) (by simp only [go_sem]) (by omega) (.mk k a nm p l nb c cb f fb) x (.val (.int .i64 L.length)) n pre.length (by simp only [Dec.cons]; omega) f [] (deepCases c 0) s 0 rfl rfl hF (by omega) (by omega) (by omega) (by omega)
   simp only [go_sem, Dec.cons] at this
   rw [show ((0 : Nat) : Int) = 0 from rfl] at this
   rw [this]
   exact Q1K L x hx hl suf (pre ++ [_]) _ s _ (by simpa using h) (by simp) (fun u hu => H u (List.mem_cons_of_mem _ hu)) (by omega) (by omega) (by omega)
theorem Q7i : ∀ m : Nat, (∀ e : Exp, e.size ≤ m → e.size < 2^40 → deepExpOK e) ∧ (∀ l : List Case, Case.sizes l ≤ m → Case.sizes l < 2^40 → deepCasesOK l) ∧ (∀ l : List Dec, Dec.sizes l ≤ m → Dec.sizes l < 2^40 → deepDecsOK l) := by
 intro m
 induction m with
 | zero =>
   refine ⟨fun e h _ => ?_, fun l h _ v s hv => ?_, fun l h _ v s hv => ?_⟩
   ·obtain ⟨k, a, nm, n, l, lb, c, cb, d, db⟩ := e
    simp only [Exp.size] at h; omega
   ·cases l with
    | cons c l => obtain ⟨p, e⟩ := c; simp only [Case.sizes, Case.size] at h; omega
    | nil =>
      rw [Q4i]; simp only [go_sem, hv]
      exact Q1x [] _ hv (by decide) [] [] 0 s 0 rfl rfl (by simp) (by decide) (by decide) (by simp only [Case.sizes]; decide)
   ·cases l with
    | cons c l => obtain ⟨k, a, nm, p, l, nb, c, cb, f, fb⟩ := c; simp only [Dec.sizes, Dec.size] at h; omega
    | nil =>
      rw [Q54]; simp only [go_sem, hv]
      exact Q1K [] _ hv (by decide) [] [] 0 s 0 rfl rfl (by simp) (by decide) (by decide) (by simp only [Dec.sizes]; decide)
 | succ m ih =>
   obtain ⟨ihE, ihC, ihD⟩ := ih
   have hC : ∀ l : List Case, Case.sizes l ≤ m + 1 → Case.sizes l < 2^40 → deepCasesOK l := fun l h h' v s hv => by
    have := Case.len_sizes l
    rw [Q4i]; simp only [go_sem, hv]
    exact Q1x l _ hv (by omega) l [] 0 s 0 rfl rfl (fun t ht => ihE t.exp (by have := Case.mem_sizes ht; obtain ⟨p, e⟩ := t; simp only [Case.size, Case.exp] at *; omega) (by have := Case.mem_sizes ht; obtain ⟨p, e⟩ := t; simp only [Case.size, Case.exp] at *; omega)) (by decide) (by decide) h'
   refine ⟨fun e h h' s => ?_, hC, fun l h h' v s hv => ?_⟩
   ·obtain ⟨k, a, nm, n, l, lb, c, cb, d, db⟩ := e
    simp only [Exp.size] at h h'
    have hl := Exp.len_sizes l
    have g1 := Q1s d 0
    have g2 := Q0P c 0
    have g3 := ZR (deepDecs d 0) (deepCases c 0) (2^40 - 1) (by omega) (by omega)
    have g4 := ZQ (deepDecs d 0) (deepCases c 0)
    have hD := fun s => ihD d (by omega) (by omega) (encS db (d.map Dec.enc)) s (by simp only [go_sem])
    have hCc := fun s => ihC c (by omega) (by omega) (encS cb (c.map Case.enc)) s (by simp only [go_sem])
    rw [Qaq]; simp only [go_sem, Nat.reduceAdd, Nat.reduceLeDiff, Exp.enc, hD, hCc]
    exact Q4j l _ (by simp only [go_sem]) (by omega) l [] _ s 0 rfl rfl (fun t ht => ihE t (by have := Exp.mem_sizes ht; omega) (by have := Exp.mem_sizes ht; omega)) (by omega) (by omega) (by omega)
   ·have := Dec.len_sizes l
    rw [Q54]; simp only [go_sem, hv]
    refine Q1K l _ hv (by omega) l [] 0 s 0 rfl rfl (fun t ht => ?_) (by decide) (by decide) h'
    have h1 := Dec.mem_sizes ht
    obtain ⟨k, a, nm, p, l, nb, c, cb, f, fb⟩ := t
    simp only [Dec.size] at h1
    refine ⟨ihC c (by omega) (by omega), fun g hg => ?_⟩
    have h2 := Fun.mem_sizes hg
    obtain ⟨nm, a, c'⟩ := g
    simp only [Dec.funs, Fun.size] at h2
    exact ihC [c'] (by simp only [Case.sizes]; omega) (by simp only [Case.sizes]; omega)
theorem Q8u (e : Exp) (s : St) (h : e.size < 2^40) : cw (.f ZH) [e.enc] s = some (.ret (.val (.int .i64 (deepExp e))), s) := (Q7i e.size).1 e (Nat.le_refl _) h s
theorem Q84 (l : List Dec) (nl : Bool) (s : St) (h : Dec.sizes l < 2^40) : cw (.f Z9) [encS nl (l.map Dec.enc)] s = some (.ret (.val (.int .i64 (deepDecs l 0))), s) := (Q7i (Dec.sizes l)).2.2 l (Nat.le_refl _) h _ s (by simp only [go_sem])
end Go.Proofs.Ytinphnakebeloaa
namespace Go.Proofs.Ytinphnakebeloaa
open Go Go.Am
set_option linter.unusedVariables false
set_option maxRecDepth 4000
section
variable {σ : Type} (step : TNode → σ → σ × Bool)
def walk : List TNode → σ → σ × Bool
 | [], st => (st, true)
 | n :: l, st => bif (step n st).2 then walk l (step n st).1 else step n st
theorem Q1h (a b : List TNode) (st : σ) : walk step (a ++ b) st = bif (walk step a st).2 then walk step b (walk step a st).1 else walk step a st := by
 induction a generalizing st with
 | nil => rfl
 | cons n a ih =>
   simp only [List.cons_append, walk]
   cases h : (step n st).2
   ·simp only [cond_false, h]
   ·simp only [cond_true]; exact ih _
variable (R : σ × Bool → St → Prop) (P : TNode → Prop) (loc : Nat)
def YOK : Prop := ∀ nd r st s, P nd → R (st, true) s → ∃ s', cw (.y loc) [nd.thing r] s = some (.ret (.val (.bool (step nd st).2)), s') ∧ R (step nd st) s'
def WOK (f : Nat) (args : List AV) (l : List TNode) : Prop := (∀ n ∈ l, P n) → ∀ st s, R (st, true) s → ∃ s', cw (.f f) args s = some (.ret (.val (.bool (walk step l st).2)), s') ∧ R (walk step l st) s'
abbrev wk : AV := .agg [.yld loc]
variable {step} {R} {P} {loc}
theorem Zw {st : σ × Bool} {s' : St} (hb : st.2 = true) (h : R st s') : R (st.1, true) s' := by rw [← hb]; exact h
theorem Q4n (hY : YOK step R P loc) (a : Int) (t : Ty) (r : List AV) (hl : t.args.length < 2^40) : ∀ (suf pre : List Ty) (st : σ) (s : St) (i : Nat), pre ++ suf = t.args → i = pre.length → (∀ u ∈ suf, ∀ r, WOK step R P Zc [wk loc, .cp (u.cells ++ r), .int .i64 a] (nodesTy a u)) → (∀ n ∈ nodesTys a suf, P n) → R (st, true) s →
  ∃ s', Zu (.val (.cp (t.cells ++ r))) (.val (.int .i64 a)) [.val (.yld loc)] (.val (.int .i64 t.args.length)) (.val (.int .i64 i)) s = some (.ret (.val (.bool (walk step (nodesTys a suf) st).2)), s') ∧ R (walk step (nodesTys a suf) st) s'
 | [], pre, st, s, i, h, hi, H, hP, hR => by
   subst hi
   rw [Q21]; simp only [go_sem, Nat.reduceAdd, Nat.reduceLeDiff, Q8 (by simpa using h), nodesTys, walk]
   exact ⟨s, rfl, hR⟩
 | u :: suf, pre, st, s, i, h, hi, H, hP, hR => by
   subst hi
   obtain ⟨f1, f2, f3⟩ := Q7 (x := .val (encS t.nl (t.args.map Ty.enc))) (Qc _ _) h (by omega) (Ty.cells_len u) (by decide)
   simp only [nodesTys] at hP ⊢
   obtain ⟨s1, e1, g1⟩ := H u (List.mem_cons_self) [] (fun n hn => hP n (List.mem_append_left _ hn)) st s hR
   rw [Q21]
   rw [Q1h]
   cases hb : (walk step (nodesTy a u) st).2 with
   | false =>
     rw [hb] at e1
     simp only [go_sem, Nat.reduceAdd, Nat.reduceLeDiff, Ty.cells_eq, f1] at e1 f2 ⊢
     simp only [go_sem, Nat.reduceAdd, Nat.reduceLeDiff, f2, e1, hb]
     exact ⟨s1, rfl, g1⟩
   | true =>
     rw [hb] at e1
     obtain ⟨s2, e2, g2⟩ := Q4n hY a t r hl suf (pre ++ [u]) (walk step (nodesTy a u) st).1 s1 (pre.length + 1) (by simpa using h) (by simp) (fun w hw => H w (List.mem_cons_of_mem _ hw)) (fun n hn => hP n (List.mem_append_right _ hn)) (Zw hb g1)
     refine ⟨s2, ?_, g2⟩
     rw [cond_true, ← e2]
     simp only [go_sem, Nat.reduceAdd, Nat.reduceLeDiff, Ty.cells_eq, f1] at e1 f2 ⊢
     simp only [go_sem, Nat.reduceAdd, Nat.reduceLeDiff, f2, e1, f3]
theorem Q4o (hY : YOK step R P loc) : ∀ (m : Nat) (a : Int) (t : Ty) (r : List AV), t.size ≤ m → t.size < 2^40 → WOK step R P Zc [wk loc, .cp (t.cells ++ r), .int .i64 a] (nodesTy a t)
 | 0, a, .mk _ _ _ _ _, _, h, _ => by simp only [Ty.size] at h; omega
 | m + 1, a, .mk k n nm l nl, r, h, h' => fun hP st s hR => by
   simp only [Ty.size] at h h'
   have hl := Ty.len_sizes l
   simp only [nodesTy] at hP ⊢
   obtain ⟨s1, e1, g1⟩ := hY (.ty (.mk k n nm l nl) a) r st s (hP _ (List.mem_cons_self)) hR
   rw [Q6R]
   simp only [walk]
   cases hb : (step (.ty (.mk k n nm l nl) a) st).2 with
   | false =>
     rw [hb] at e1
     simp only [go_sem, Nat.reduceAdd, Nat.reduceLeDiff, TNode.thing] at e1 ⊢
     simp only [go_sem, e1, hb]
     exact ⟨s1, rfl, g1⟩
   | true =>
     rw [hb] at e1
     obtain ⟨s2, e2, g2⟩ := Q4n hY a (.mk k n nm l nl) r (by simp only [Ty.args]; omega) l [] (step (.ty (.mk k n nm l nl) a) st).1 s1 0 rfl rfl (fun u hu r => by have := Ty.mem_sizes hu; exact Q4o hY m a u r (by omega) (by omega)) (fun n hn => hP n (List.mem_cons_of_mem _ hn)) (Zw hb g1)
     refine ⟨s2, ?_, g2⟩
     rw [cond_true, ← e2]
     simp only [go_sem, Nat.reduceAdd, Nat.reduceLeDiff, TNode.thing] at e1 ⊢
     simp only [go_sem, e1, Ty.args]
     rfl
theorem Q59 (hY : YOK step R P loc) (t : Pat) (r : List AV) (hl : t.kids.length < 2^40) : ∀ (suf pre : List Pat) (st : σ) (s : St) (i : Nat), pre ++ suf = t.kids → i = pre.length → (∀ u ∈ suf, ∀ r, WOK step R P QO [wk loc, .cp (u.cells ++ r)] (nodesPat u)) → (∀ n ∈ nodesPats suf, P n) → R (st, true) s →
  ∃ s', Zd (.val (.cp (t.cells ++ r))) [.val (.yld loc)] (.val (.int .i64 t.kids.length)) (.val (.int .i64 i)) s = some (.ret (.val (.bool (walk step (nodesPats suf) st).2)), s') ∧ R (walk step (nodesPats suf) st) s'
 | [], pre, st, s, i, h, hi, H, hP, hR => by
   subst hi
   rw [ZK]; simp only [go_sem, Nat.reduceAdd, Nat.reduceLeDiff, Q8 (by simpa using h), nodesPats, walk]
   exact ⟨s, rfl, hR⟩
 | u :: suf, pre, st, s, i, h, hi, H, hP, hR => by
   subst hi
   obtain ⟨f1, f2, f3⟩ := Q7 (x := .val (encS t.kb (t.kids.map Pat.enc))) (Qc _ _) h (by omega) (Pat.cells_len u) (by decide)
   simp only [nodesPats] at hP ⊢
   obtain ⟨s1, e1, g1⟩ := H u (List.mem_cons_self) [] (fun n hn => hP n (List.mem_append_left _ hn)) st s hR
   rw [ZK]
   rw [Q1h]
   cases hb : (walk step (nodesPat u) st).2 with
   | false =>
     rw [hb] at e1
     simp only [go_sem, Nat.reduceAdd, Nat.reduceLeDiff, Pat.cells_eq, f1] at e1 f2 ⊢
     simp only [go_sem, Nat.reduceAdd, Nat.reduceLeDiff, f2, e1, hb]
     exact ⟨s1, rfl, g1⟩
   | true =>
     rw [hb] at e1
     obtain ⟨s2, e2, g2⟩ := Q59 hY t r hl suf (pre ++ [u]) (walk step (nodesPat u) st).1 s1 (pre.length + 1) (by simpa using h) (by simp) (fun w hw => H w (List.mem_cons_of_mem _ hw)) (fun n hn => hP n (List.mem_append_right _ hn)) (Zw hb g1)
     refine ⟨s2, ?_, g2⟩
     rw [cond_true, ← e2]
     simp only [go_sem, Nat.reduceAdd, Nat.reduceLeDiff, Pat.cells_eq, f1] at e1 f2 ⊢
     simp only [go_sem, Nat.reduceAdd, Nat.reduceLeDiff, f2, e1, f3]
theorem Q5a (hY : YOK step R P loc) : ∀ (m : Nat) (t : Pat) (r : List AV), t.size ≤ m → t.size < 2^40 → WOK step R P QO [wk loc, .cp (t.cells ++ r)] (nodesPat t)
 | 0, .mk _ _ _ _ _ _, _, h, _ => by simp only [Pat.size] at h; omega
 | m + 1, .mk k a nm n l nl, r, h, h' => fun hP st s hR => by
   simp only [Pat.size] at h h'
   have hl := Pat.len_sizes l
   simp only [nodesPat] at hP ⊢
   obtain ⟨s1, e1, g1⟩ := hY (.pat (.mk k a nm n l nl)) r st s (hP _ (List.mem_cons_self)) hR
   rw [Q3q]
   simp only [walk]
   cases hb : (step (.pat (.mk k a nm n l nl)) st).2 with
   | false =>
     rw [hb] at e1
     simp only [go_sem, Nat.reduceAdd, Nat.reduceLeDiff, TNode.thing, Pat.at_] at e1 ⊢
     simp only [go_sem, e1, hb]
     exact ⟨s1, rfl, g1⟩
   | true =>
     rw [hb] at e1
     obtain ⟨s2, e2, g2⟩ := Q59 hY (.mk k a nm n l nl) r (by simp only [Pat.kids]; omega) l [] (step (.pat (.mk k a nm n l nl)) st).1 s1 0 rfl rfl (fun u hu r => by have := Pat.mem_sizes hu; exact Q5a hY m u r (by omega) (by omega)) (fun n hn => hP n (List.mem_cons_of_mem _ hn)) (Zw hb g1)
     refine ⟨s2, ?_, g2⟩
     rw [cond_true, ← e2]
     simp only [go_sem, Nat.reduceAdd, Nat.reduceLeDiff, TNode.thing, Pat.at_] at e1 ⊢
     simp only [go_sem, e1, Pat.kids]
     rfl
def WExp (step : TNode → σ → σ × Bool) (R : σ × Bool → St → Prop) (P : TNode → Prop) (loc : Nat) (t : Exp) : Prop := ∀ r, WOK step R P Zk [wk loc, .cp (t.cells ++ r)] (nodesExp t)
def WCases (step : TNode → σ → σ × Bool) (R : σ × Bool → St → Prop) (P : TNode → Prop) (loc : Nat) (l : List Case) : Prop := ∀ v, (Slot.val v).list? = some (l.map Case.enc) → WOK step R P Zb [wk loc, v] (nodesCases l)
def WDecs (step : TNode → σ → σ × Bool) (R : σ × Bool → St → Prop) (P : TNode → Prop) (loc : Nat) (l : List Dec) : Prop := ∀ v inn, (Slot.val v).list? = some (l.map Dec.enc) → WOK step R P Z1 [wk loc, v, .bool inn] (nodesDecs inn l)
theorem Q26 (hY : YOK step R P loc) (L : List Case) (x : Slot) (hx : x.list? = some (L.map Case.enc)) (hl : L.length < 2^40) : ∀ (suf pre : List Case) (st : σ) (s : St) (i : Nat), pre ++ suf = L → i = pre.length → (∀ u ∈ suf, WExp step R P loc u.exp ∧ u.size < 2^40) → (∀ n ∈ nodesCases suf, P n) → R (st, true) s →
  ∃ s', Zt x [.val (.yld loc)] (.val (.int .i64 L.length)) (.val (.int .i64 i)) s = some (.ret (.val (.bool (walk step (nodesCases suf) st).2)), s') ∧ R (walk step (nodesCases suf) st) s'
 | [], pre, st, s, i, h, hi, H, hP, hR => by
   subst hi
   rw [Q20]; simp only [go_sem, Nat.reduceAdd, Nat.reduceLeDiff, Q8 (by simpa using h), nodesCases, walk]
   exact ⟨s, rfl, hR⟩
 | .mk p e :: suf, pre, st, s, i, h, hi, H, hP, hR => by
   subst hi
   obtain ⟨f1, f2, f3⟩ := Q7 hx h (by omega) (Case.cells_len (.mk p e)) (by decide)
   simp only [nodesCases, nodesCase] at hP ⊢
   obtain ⟨hE, hsz⟩ := H (.mk p e) (List.mem_cons_self)
   simp only [Case.exp, Case.size] at hE hsz
   obtain ⟨s1, e1, g1⟩ := Q5a hY _ p e.cells (Nat.le_refl _) (by omega) (fun n hn => hP n (List.mem_append_left _ (List.mem_append_left _ hn))) st s hR
   rw [Q20]
   rw [Q1h, Q1h]
   cases hb : (walk step (nodesPat p) st).2 with
   | false =>
     rw [hb] at e1
     simp only [go_sem, Nat.reduceAdd, Nat.reduceLeDiff, f1, f2, e1, hb]
     exact ⟨s1, rfl, g1⟩
   | true =>
     rw [hb] at e1
     rw [cond_true]
     obtain ⟨s2, e2, g2⟩ := hE [] (fun n hn => hP n (List.mem_append_left _ (List.mem_append_right _ hn))) (walk step (nodesPat p) st).1 s1 (Zw hb g1)
     cases hb2 : (walk step (nodesExp e) (walk step (nodesPat p) st).1).2 with
     | false =>
       rw [hb2] at e2
       simp only [go_sem] at e2
       simp only [go_sem, Nat.reduceAdd, Nat.reduceLeDiff, Nat.reduceSub, f1, f2, e1, e2, hb2]
       exact ⟨s2, rfl, g2⟩
     | true =>
       rw [hb2] at e2
       obtain ⟨s3, e3, g3⟩ := Q26 hY L x hx hl suf (pre ++ [.mk p e]) (walk step (nodesExp e) (walk step (nodesPat p) st).1).1 s2 (pre.length + 1) (by simpa using h) (by simp) (fun w hw => H w (List.mem_cons_of_mem _ hw)) (fun n hn => hP n (List.mem_append_right _ hn)) (Zw hb2 g2)
       refine ⟨s3, ?_, g3⟩
       rw [cond_true, ← e3]
       simp only [go_sem] at e2
       simp only [go_sem, Nat.reduceAdd, Nat.reduceLeDiff, Nat.reduceSub, f1, f2, e1, e2, f3]
theorem Q58 (hY : YOK step R P loc) (t : Exp) (r : List AV) (hl : t.kids.length < 2^40) (HC : WCases step R P loc t.cases) : ∀ (suf pre : List Exp) (st : σ) (s : St) (i : Nat), pre ++ suf = t.kids → i = pre.length → (∀ u ∈ suf, WExp step R P loc u) → (∀ n ∈ nodesExps suf ++ nodesCases t.cases, P n) → R (st, true) s →
  ∃ s', ZF (.val (.cp (t.cells ++ r))) [.val (.yld loc)] (.val (.int .i64 t.kids.length)) (.val (.int .i64 i)) s = some (.ret (.val (.bool (walk step (nodesExps suf ++ nodesCases t.cases) st).2)), s') ∧ R (walk step (nodesExps suf ++ nodesCases t.cases) st) s'
 | [], pre, st, s, i, h, hi, H, hP, hR => by
   subst hi
   simp only [nodesExps, List.nil_append] at hP ⊢
   obtain ⟨s1, e1, g1⟩ := HC (encS t.cb (t.cases.map Case.enc)) (by simp only [go_sem]) hP st s hR
   rw [Q2m]; simp only [go_sem, Nat.reduceAdd, Nat.reduceLeDiff, Exp.cells_eq, Q8 (by simpa using h), e1]
   exact ⟨s1, rfl, g1⟩
 | u :: suf, pre, st, s, i, h, hi, H, hP, hR => by
   subst hi
   obtain ⟨f1, f2, f3⟩ := Q7 (x := .val (encS t.kb (t.kids.map Exp.enc))) (Qc _ _) h (by omega) (Exp.cells_len u) (by decide)
   simp only [nodesExps, List.append_assoc] at hP ⊢
   obtain ⟨s1, e1, g1⟩ := H u (List.mem_cons_self) [] (fun n hn => hP n (List.mem_append_left _ hn)) st s hR
   rw [Q2m]
   rw [Q1h]
   cases hb : (walk step (nodesExp u) st).2 with
   | false =>
     rw [hb] at e1
     simp only [go_sem, Nat.reduceAdd, Nat.reduceLeDiff, Exp.cells_eq, f1] at e1 f2 ⊢
     simp only [go_sem, Nat.reduceAdd, Nat.reduceLeDiff, f2, e1, hb]
     exact ⟨s1, rfl, g1⟩
   | true =>
     rw [hb] at e1
     obtain ⟨s2, e2, g2⟩ := Q58 hY t r hl HC suf (pre ++ [u]) (walk step (nodesExp u) st).1 s1 (pre.length + 1) (by simpa using h) (by simp) (fun w hw => H w (List.mem_cons_of_mem _ hw)) (fun n hn => hP n (List.mem_append_right _ hn)) (Zw hb g1)
     refine ⟨s2, ?_, g2⟩
     rw [cond_true, ← e2]
     simp only [go_sem, Nat.reduceAdd, Nat.reduceLeDiff, Exp.cells_eq, f1] at e1 f2 ⊢
     simp only [go_sem, Nat.reduceAdd, Nat.reduceLeDiff, f2, e1, f3]
theorem Qcj (hY : YOK step R P loc) (t : Exp) (hl : t.kids.length < 2^40) (HD : WDecs step R P loc t.decs) (HC : WCases step R P loc t.cases) (HE : ∀ u ∈ t.kids, WExp step R P loc u) : WExp step R P loc t := fun r hP st s hR => by
 obtain ⟨k, a, nm, n, l, lb, c, cb, d, db⟩ := t
 simp only [Exp.kids, Exp.cases, Exp.decs] at hl HD HC HE
 simp only [nodesExp] at hP ⊢
 obtain ⟨s1, e1, g1⟩ := hY (.exp (.mk k a nm n l lb c cb d db)) r st s (hP _ (List.mem_cons_self)) hR
 rw [Q7p]
 simp only [walk]
 cases hb : (step (.exp (.mk k a nm n l lb c cb d db)) st).2 with
 | false =>
   rw [hb] at e1
   simp only [go_sem, Nat.reduceAdd, Nat.reduceLeDiff, TNode.thing, Exp.at_] at e1 ⊢
   simp only [go_sem, e1, hb]
   exact ⟨s1, rfl, g1⟩
 | true =>
   rw [hb] at e1
   rw [cond_true, Q1h]
   obtain ⟨s2, e2, g2⟩ := HD (encS db (d.map Dec.enc)) true (by simp only [go_sem]) (fun n hn => hP n (List.mem_cons_of_mem _ (List.mem_append_left _ hn))) (step (.exp (.mk k a nm n l lb c cb d db)) st).1 s1 (Zw hb g1)
   cases hb2 : (walk step (nodesDecs true d) (step (.exp (.mk k a nm n l lb c cb d db)) st).1).2 with
   | false =>
     rw [hb2] at e2
     simp only [go_sem, Nat.reduceAdd, Nat.reduceLeDiff, TNode.thing, Exp.at_] at e1 ⊢
     simp only [go_sem, e1, e2, hb2]
     exact ⟨s2, rfl, g2⟩
   | true =>
     rw [hb2] at e2
     obtain ⟨s3, e3, g3⟩ := Q58 hY (.mk k a nm n l lb c cb d db) r (by simp only [Exp.kids]; omega) HC l [] (walk step (nodesDecs true d) (step (.exp (.mk k a nm n l lb c cb d db)) st).1).1 s2 0 rfl rfl HE (fun n hn => hP n (List.mem_cons_of_mem _ (List.mem_append_right _ hn))) (Zw hb2 g2)
     refine ⟨s3, ?_, g3⟩
     simp only [Exp.cases] at e3
     rw [cond_true, ← e3]
     simp only [go_sem, Nat.reduceAdd, Nat.reduceLeDiff, TNode.thing, Exp.at_] at e1 ⊢
     simp only [go_sem, e1, e2, Exp.kids]
     rfl
theorem Q1y (hY : YOK step R P loc) (d : Dec) (x1 x2 x14 : Slot) (j : Nat) (hj : j < 2^40) (hl : d.cons.length < 2^40) (hsz : Con.sizes d.cons < 2^40) (rest : List TNode)
  (K : ∀ st s, R (st, true) s → (∀ n ∈ rest, P n) → ∃ s', QW x1 x2 [.val (.yld loc)] x14 (.val (.int .i64 (j + 1 : Nat))) s = some (.ret (.val (.bool (walk step rest st).2)), s') ∧ R (walk step rest st) s') :
  ∀ (suf pre : List Con) (st : σ) (s : St) (i : Nat), pre ++ suf = d.cons → i = pre.length → Con.sizes suf < 2^40 → (∀ n ∈ nodesCons suf ++ rest, P n) → R (st, true) s →
  ∃ s', ZE x1 x2 [.val (.yld loc)] (.val (.cp d.cells)) x14 (.val (.int .i64 j)) (.val (.int .i64 d.cons.length)) (.val (.int .i64 i)) s = some (.ret (.val (.bool (walk step (nodesCons suf ++ rest) st).2)), s') ∧ R (walk step (nodesCons suf ++ rest) st) s'
 | [], pre, st, s, i, h, hi, hz, hP, hR => by
   subst hi
   simp only [nodesCons, List.nil_append] at hP ⊢
   obtain ⟨s1, e1, g1⟩ := K st s hR hP
   refine ⟨s1, ?_, g1⟩
   rw [Q2l, ← e1]; simp only [go_sem, Nat.reduceAdd, Nat.reduceLeDiff, Q8 (by simpa using h)]
   rw [wrap64 (by omega) (by omega)]; rfl
 | .mk nm a hs arg :: suf, pre, st, s, i, h, hi, hz, hP, hR => by
   subst hi
   obtain ⟨f1, f2, f3⟩ := Q7 (x := .val (encS d.nb (d.cons.map Con.enc))) (Qc _ _) h (by omega) (Con.cells_len ⟨nm, a, hs, arg⟩) (by decide)
   simp only [Con.sizes, Con.size] at hz
   simp only [nodesCons, nodesCon, List.append_assoc, List.cons_append] at hP ⊢
   obtain ⟨s1, e1, g1⟩ := hY (.con ⟨nm, a, hs, arg⟩) [] st s (hP _ (List.mem_cons_self)) hR
   rw [Q2l]
   simp only [walk]
   cases hb : (step (.con ⟨nm, a, hs, arg⟩) st).2 with
   | false =>
     rw [hb] at e1
     simp only [go_sem, Nat.reduceAdd, Nat.reduceLeDiff, Dec.cells_eq, Con.cells, TNode.thing, f1] at e1 f2 ⊢
     simp only [go_sem, Nat.reduceAdd, Nat.reduceLeDiff, f2, e1, hb]
     exact ⟨s1, rfl, g1⟩
   | true =>
     rw [hb] at e1
     rw [cond_true]
     cases hs with
     | false =>
       obtain ⟨s2, e2, g2⟩ := Q1y hY d x1 x2 x14 j hj hl hsz rest K suf (pre ++ [⟨nm, a, false, arg⟩]) (step (.con ⟨nm, a, false, arg⟩) st).1 s1 (pre.length + 1) (by simpa using h) (by simp) (by omega) (fun n hn => hP n (List.mem_cons_of_mem _ hn)) (Zw hb g1)
       refine ⟨s2, ?_, g2⟩
       rw [cond_false, List.nil_append, ← e2]
       simp only [go_sem, Nat.reduceAdd, Nat.reduceLeDiff, Dec.cells_eq, Con.cells, TNode.thing, f1] at e1 f2 ⊢
       simp only [go_sem, Nat.reduceAdd, Nat.reduceLeDiff, f2, e1, f3]
     | true =>
       rw [cond_true, Q1h]
       rw [cond_true] at hP
       obtain ⟨s2, e2, g2⟩ := Q4o hY _ a arg [] (Nat.le_refl _) (by omega) (fun n hn => hP n (List.mem_cons_of_mem _ (List.mem_append_left _ hn))) (step (.con ⟨nm, a, true, arg⟩) st).1 s1 (Zw hb g1)
       cases hb2 : (walk step (nodesTy a arg) (step (.con ⟨nm, a, true, arg⟩) st).1).2 with
       | false =>
         rw [hb2] at e2
         simp only [go_sem] at e2
         simp only [go_sem, Nat.reduceAdd, Nat.reduceLeDiff, Dec.cells_eq, Con.cells, TNode.thing, f1] at e1 f2 ⊢
         simp only [go_sem, Nat.reduceAdd, Nat.reduceLeDiff, f2, e1, e2, hb2]
         exact ⟨s2, rfl, g2⟩
       | true =>
         rw [hb2] at e2
         obtain ⟨s3, e3, g3⟩ := Q1y hY d x1 x2 x14 j hj hl hsz rest K suf (pre ++ [⟨nm, a, true, arg⟩]) (walk step (nodesTy a arg) (step (.con ⟨nm, a, true, arg⟩) st).1).1 s2 (pre.length + 1) (by simpa using h) (by simp) (by omega) (fun n hn => hP n (List.mem_cons_of_mem _ (List.mem_append_right _ hn))) (Zw hb2 g2)
         refine ⟨s3, ?_, g3⟩
         rw [cond_true, ← e3]
         simp only [go_sem] at e2
         simp only [go_sem, Nat.reduceAdd, Nat.reduceLeDiff, Dec.cells_eq, Con.cells, TNode.thing, f1] at e1 f2 ⊢
         simp only [go_sem, Nat.reduceAdd, Nat.reduceLeDiff, f2, e1, e2, f3]
theorem Q3r (hY : YOK step R P loc) (d : Dec) (x1 x2 x14 : Slot) (j : Nat) (hj : j < 2^40) (hl0 : d.funs.length < 2^40) (hl : d.cons.length < 2^40) (hsz : Con.sizes d.cons < 2^40) (rest : List TNode)
  (K : ∀ st s, R (st, true) s → (∀ n ∈ rest, P n) → ∃ s', QW x1 x2 [.val (.yld loc)] x14 (.val (.int .i64 (j + 1 : Nat))) s = some (.ret (.val (.bool (walk step rest st).2)), s') ∧ R (walk step rest st) s') :
  ∀ (suf pre : List Fun) (st : σ) (s : St) (i : Nat), pre ++ suf = d.funs → i = pre.length → (∀ f ∈ suf, WCases step R P loc [f.case]) → (∀ n ∈ nodesFuns suf ++ (nodesCons d.cons ++ rest), P n) → R (st, true) s →
  ∃ s', ZD x1 x2 [.val (.yld loc)] (.val (.cp d.cells)) x14 (.val (.int .i64 j)) (.val (.int .i64 d.funs.length)) (.val (.int .i64 i)) s = some (.ret (.val (.bool (walk step (nodesFuns suf ++ (nodesCons d.cons ++ rest)) st).2)), s') ∧ R (walk step (nodesFuns suf ++ (nodesCons d.cons ++ rest)) st) s'
 | [], pre, st, s, i, h, hi, H, hP, hR => by
   subst hi
   simp only [nodesFuns, List.nil_append] at hP ⊢
   obtain ⟨s1, e1, g1⟩ := Q1y hY d x1 x2 x14 j hj hl hsz rest K d.cons [] st s 0 rfl rfl hsz hP hR
   refine ⟨s1, ?_, g1⟩
   rw [Q2k, ← e1]; simp only [go_sem, Nat.reduceAdd, Nat.reduceLeDiff, Dec.cells_eq, Q8 (by simpa using h)]
   rfl
 | .mk nm a c :: suf, pre, st, s, i, h, hi, H, hP, hR => by
   subst hi
   obtain ⟨f1, f2, f3⟩ := Q7 (x := .val (encS d.fb (d.funs.map Fun.enc))) (Qc _ _) h (by omega) (Fun.cells_len (.mk nm a c)) (by decide)
   simp only [nodesFuns, nodesFun, List.append_assoc, List.cons_append] at hP ⊢
   obtain ⟨s1, e1, g1⟩ := hY (.fn (.mk nm a c)) [] st s (hP _ (List.mem_cons_self)) hR
   rw [Q2k]
   simp only [walk]
   cases hb : (step (.fn (.mk nm a c)) st).2 with
   | false =>
     rw [hb] at e1
     simp only [go_sem, Nat.reduceAdd, Nat.reduceLeDiff, Dec.cells_eq, TNode.thing, Fun.at_, f1] at e1 f2 ⊢
     simp only [go_sem, Nat.reduceAdd, Nat.reduceLeDiff, f2, e1, hb]
     exact ⟨s1, rfl, g1⟩
   | true =>
     rw [hb] at e1
     rw [cond_true, Q1h]
     obtain ⟨s2, e2, g2⟩ := H (.mk nm a c) (List.mem_cons_self) (.sl [c.enc]) (by simp only [go_sem, Fun.case]) (fun n hn => hP n (List.mem_cons_of_mem _ (List.mem_append_left _ (by simpa [nodesCases, Fun.case] using hn)))) (step (.fn (.mk nm a c)) st).1 s1 (Zw hb g1)
     simp only [Fun.case, nodesCases, List.append_nil] at e2 g2
     cases hb2 : (walk step (nodesCase c) (step (.fn (.mk nm a c)) st).1).2 with
     | false =>
       rw [hb2] at e2
       simp only [go_sem, Nat.reduceAdd, Nat.reduceLeDiff, Dec.cells_eq, TNode.thing, Fun.at_, f1] at e1 f2 ⊢
       simp only [go_sem, Nat.reduceAdd, Nat.reduceLeDiff, f2, e1, e2, hb2]
       exact ⟨s2, rfl, g2⟩
     | true =>
       rw [hb2] at e2
       obtain ⟨s3, e3, g3⟩ := Q3r hY d x1 x2 x14 j hj hl0 hl hsz rest K suf (pre ++ [.mk nm a c]) (walk step (nodesCase c) (step (.fn (.mk nm a c)) st).1).1 s2 (pre.length + 1) (by simpa using h) (by simp) (fun w hw => H w (List.mem_cons_of_mem _ hw)) (fun n hn => hP n (List.mem_cons_of_mem _ (List.mem_append_right _ hn))) (Zw hb2 g2)
       refine ⟨s3, ?_, g3⟩
       rw [cond_true, ← e3]
       simp only [go_sem, Nat.reduceAdd, Nat.reduceLeDiff, Dec.cells_eq, TNode.thing, Fun.at_, f1] at e1 f2 ⊢
       simp only [go_sem, Nat.reduceAdd, Nat.reduceLeDiff, f2, e1, e2, f3]
theorem Q2y (hY : YOK step R P loc) (L : List Dec) (x : Slot) (hx : x.list? = some (L.map Dec.enc)) (inn : Bool) (hl : L.length < 2^40) : ∀ (suf pre : List Dec) (st : σ) (s : St) (i : Nat), pre ++ suf = L → i = pre.length → (∀ d ∈ suf, d.size < 2^40 ∧ WCases step R P loc d.case ∧ ∀ f ∈ d.funs, WCases step R P loc [f.case]) → (∀ n ∈ nodesDecs inn suf, P n) → R (st, true) s →
  ∃ s', QW x (.val (.bool inn)) [.val (.yld loc)] (.val (.int .i64 L.length)) (.val (.int .i64 i)) s = some (.ret (.val (.bool (walk step (nodesDecs inn suf) st).2)), s') ∧ R (walk step (nodesDecs inn suf) st) s'
 | [], pre, st, s, i, h, hi, H, hP, hR => by
   subst hi
   rw [Q2j]; simp only [go_sem, Nat.reduceAdd, Nat.reduceLeDiff, Q8 (by simpa using h), nodesDecs, walk]
   exact ⟨s, rfl, hR⟩
 | .mk k a nm p l nb c cb f fb :: suf, pre, st, s, i, h, hi, H, hP, hR => by
   subst hi
   obtain ⟨f1, f2, f3⟩ := Q7 hx h (by omega) (Dec.cells_len (.mk k a nm p l nb c cb f fb)) (by decide)
   obtain ⟨hsz, HC, HF⟩ := H _ (List.mem_cons_self)
   simp only [Dec.case, Dec.funs, Dec.size] at hsz HC HF
   have q1 := Fun.len_sizes f
   have q2 := Con.len_sizes l
   have hlen : pre.length < L.length := by rw [← h]; simp
   simp only [nodesDecs, nodesDec, List.append_assoc, List.cons_append] at hP ⊢
   obtain ⟨s1, e1, g1⟩ := hY (.dec inn (.mk k a nm p l nb c cb f fb)) [] st s (hP _ (List.mem_cons_self)) hR
   rw [Q2j]
   simp only [walk]
   cases hb : (step (.dec inn (.mk k a nm p l nb c cb f fb)) st).2 with
   | false =>
     rw [hb] at e1
     simp only [go_sem, Nat.reduceAdd, Nat.reduceLeDiff, TNode.thing, Dec.at_, f1] at e1 f2 ⊢
     simp only [go_sem, Nat.reduceAdd, Nat.reduceLeDiff, f2, e1, hb]
     exact ⟨s1, rfl, g1⟩
   | true =>
     rw [hb] at e1
     rw [cond_true, Q1h]
     obtain ⟨s2, e2, g2⟩ := HC (encS cb (c.map Case.enc)) (by simp only [go_sem]) (fun n hn => hP n (List.mem_cons_of_mem _ (List.mem_append_left _ hn))) (step (.dec inn (.mk k a nm p l nb c cb f fb)) st).1 s1 (Zw hb g1)
     cases hb2 : (walk step (nodesCases c) (step (.dec inn (.mk k a nm p l nb c cb f fb)) st).1).2 with
     | false =>
       rw [hb2] at e2
       simp only [go_sem, Nat.reduceAdd, Nat.reduceLeDiff, TNode.thing, Dec.at_, f1] at e1 f2 ⊢
       simp only [go_sem, Nat.reduceAdd, Nat.reduceLeDiff, f2, e1, e2, hb2]
       exact ⟨s2, rfl, g2⟩
     | true =>
       rw [hb2] at e2
       obtain ⟨s3, e3, g3⟩ := Q3r hY (.mk k a nm p l nb c cb f fb) x (.val (.bool inn)) (.val (.int .i64 L.length)) pre.length (by omega) (by simp only [Dec.funs]; omega) (by simp only [Dec.cons]; omega) (by simp only [Dec.cons]; omega) (nodesDecs inn suf)
        (fun st s hR hP => Q2y hY L x hx inn hl suf (pre ++ [.mk k a nm p l nb c cb f fb]) st s (pre.length + 1) (by simpa using h) (by simp) (fun w hw => H w (List.mem_cons_of_mem _ hw)) hP hR)
        f [] (walk step (nodesCases c) (step (.dec inn (.mk k a nm p l nb c cb f fb)) st).1).1 s2 0 rfl rfl HF (fun n hn => hP n (List.mem_cons_of_mem _ (List.mem_append_right _ hn))) (Zw hb2 g2)
       refine ⟨s3, ?_, g3⟩
       simp only [Dec.cons] at e3
       rw [cond_true, ← e3]
       simp only [go_sem, Nat.reduceAdd, Nat.reduceLeDiff, TNode.thing, Dec.at_, f1] at e1 f2 ⊢
       simp only [go_sem, Nat.reduceAdd, Nat.reduceLeDiff, f2, e1, e2, Dec.funs]
       rfl
theorem QaB (hY : YOK step R P loc) : ∀ m : Nat, (∀ e : Exp, e.size ≤ m → e.size < 2^40 → WExp step R P loc e) ∧ (∀ l : List Case, Case.sizes l ≤ m → Case.sizes l < 2^40 → WCases step R P loc l) ∧ (∀ l : List Dec, Dec.sizes l ≤ m → Dec.sizes l < 2^40 → WDecs step R P loc l) := by
 intro m
 induction m with
 | zero =>
   refine ⟨fun e h _ => ?_, fun l h _ v hv hP st s hR => ?_, fun l h _ v inn hv hP st s hR => ?_⟩
   ·obtain ⟨k, a, nm, n, l, lb, c, cb, d, db⟩ := e
    simp only [Exp.size] at h; omega
   ·cases l with
    | cons c l => obtain ⟨p, e⟩ := c; simp only [Case.sizes, Case.size] at h; omega
    | nil =>
      rw [Q3c]; simp only [go_sem, Nat.reduceAdd, hv]
      exact Q26 hY [] _ hv (by decide) [] [] st s 0 rfl rfl (by simp) hP hR
   ·cases l with
    | cons c l => obtain ⟨k, a, nm, p, l, nb, c, cb, f, fb⟩ := c; simp only [Dec.sizes, Dec.size] at h; omega
    | nil =>
      rw [Q3p]; simp only [go_sem, Nat.reduceAdd, hv]
      exact Q2y hY [] _ hv inn (by decide) [] [] st s 0 rfl rfl (by simp) hP hR
 | succ m ih =>
   obtain ⟨ihE, ihC, ihD⟩ := ih
   refine ⟨fun e h h' => ?_, fun l h h' v hv hP st s hR => ?_, fun l h h' v inn hv hP st s hR => ?_⟩
   ·refine Qcj hY e ?_ ?_ ?_ ?_ <;> obtain ⟨k, a, nm, n, l, lb, c, cb, d, db⟩ := e <;> simp only [Exp.size] at h h' <;> simp only [Exp.kids, Exp.cases, Exp.decs]
    ·have := Exp.len_sizes l; omega
    ·exact ihD d (by omega) (by omega)
    ·exact ihC c (by omega) (by omega)
    ·exact fun u hu => ihE u (by have := Exp.mem_sizes hu; omega) (by have := Exp.mem_sizes hu; omega)
   ·have := Case.len_sizes l
    rw [Q3c]; simp only [go_sem, Nat.reduceAdd, hv]
    refine Q26 hY l _ hv (by omega) l [] st s 0 rfl rfl (fun t ht => ?_) hP hR
    have h1 := Case.mem_sizes ht
    obtain ⟨p, e⟩ := t
    simp only [Case.size, Case.exp] at h1 ⊢
    exact ⟨ihE e (by omega) (by omega), by omega⟩
   ·have := Dec.len_sizes l
    rw [Q3p]; simp only [go_sem, Nat.reduceAdd, hv]
    refine Q2y hY l _ hv inn (by omega) l [] st s 0 rfl rfl (fun t ht => ?_) hP hR
    have h1 := Dec.mem_sizes ht
    obtain ⟨k, a, nm, p, l, nb, c, cb, f, fb⟩ := t
    simp only [Dec.size, Dec.case, Dec.funs] at h1 ⊢
    refine ⟨by omega, ihC c (by omega) (by omega), fun g hg => ?_⟩
    have h2 := Fun.mem_sizes hg
    obtain ⟨nm, a, c'⟩ := g
    simp only [Fun.size, Fun.case] at h2 ⊢
    exact ihC [c'] (by simp only [Case.sizes]; omega) (by simp only [Case.sizes]; omega)
end
end Go.Proofs.Ytinphnakebeloaa