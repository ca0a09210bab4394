/- A part of the proof: SSch7, SRef10, PShow2, PShow3, PShow4, SRef10d, SRef07t, PSch4, SLaw10. -/
import Derived.Test.YtobelgghegmhhaaGreatDoorM8
import Derived.Test.YtobelgghegmhhaaGreatDoorM10
import Derived.Test.YtobelgghegmhhaaGreatDoorM11
import Derived.Test.YtobelgghegmhhaaGreatDoorM12
import Derived.Test.YtobelgghegmhhaaGreatDoorM13
import Derived.Lib.Bytealg
import Derived.Lib.ItoaMem
import Derived.Lib.ItoaLen
set_option linter.unusedVariables false
set_option linter.unusedSimpArgs false
namespace Go.Proofs.YtobelgghegmhhaaGreatDoor
open Go Go.Am
set_option linter.unusedVariables false
set_option maxRecDepth 4000
theorem Qln {e : TypeId} {t : TI} {v : AV} (s : St) (h : v.cells.length = t.size) (ht : v.isTup = false) (hb : t.bytes ≤ 2^16) : bslV e t s [.val v] = some (.val (.vs s.locs.length e t.size 0 1), s.addLoc (.var ((flatL [v]).map .val))) := by
 unfold bslV
 rw [Qhu h ht, Qht]
 simp only [Option.map_some, newV, List.length_singleton]
 rw [if_pos ⟨by omega, by omega⟩]
theorem Q3U (a b : Sch) (ha : SchOK a) (hb : SchOK b) (s : St) : Ret (cw (.f ZR) [a.enc, b.enc] s) s (.bool (moreP a.vars a.ty b.vars b.ty)) := by
 obtain ⟨av, t⟩ := a
 obtain ⟨bv, u⟩ := b
 obtain ⟨s1, e1, g1⟩ := ZA av t s (by have := ha.size; simp only at this; omega) ha.names
 have ct := Ty.cells_eq t
 have cu := Ty.cells_eq u
 change cw _ _ _ = some (.ret (.val (.bool (rightSB av t))), s1) at e1
 rw [Qa2]
 unfold moreP
 cases hr : rightSB av t with
 | false =>
   rw [hr] at e1
   simp only [Sch.enc, Sch.cells, ct, cu] at e1 ⊢
   simp only [go_sem, Nat.reduceAdd, Nat.reduceLeDiff, e1]
   exact ⟨s1, rfl, g1⟩
 | true =>
   obtain ⟨s2, e2, g2⟩ := ZA bv u s1 (by have := hb.size; simp only at this; omega) hb.names
   change cw _ _ _ = some (.ret (.val (.bool (rightSB bv u))), s2) at e2
   rw [hr] at e1
   cases hr2 : rightSB bv u with
   | false =>
     rw [hr2] at e2
     simp only [Sch.enc, Sch.cells, ct, cu] at e1 e2 ⊢
     simp only [go_sem, Nat.reduceAdd, Nat.reduceLeDiff, e1, e2]
     exact ⟨s2, rfl, g1.trans g2⟩
   | true =>
     rw [hr2] at e2
     have r1 := Q2l hr
     have r2 := Q2l hr2
     have e3 := Qln (e := Qs) (t := C.ti Qs) (v := encP (t, u)) (s2.addLoc (.map [] 0)) (by rw [Q0Q]; exact Q7Z _) rfl (by rw [Q61]; decide)
     rw [Q0Q] at e3
     have gM : Grew s2 ((s2.addLoc (.map [] 0)).addLoc (.var ((flatL [encP (t, u)]).map .val))) := ((Grew.refl s2).addLoc _).addLoc _
     obtain ⟨s4, e4, g4⟩ := Q6r av bv t u r1.2 r2.2 s2.locs.length s2 (Nat.le_refl _) t.size [(t, u)] (fun _ => none) (s2.addLoc (.map [] 0)).locs.length ((s2.addLoc (.map [] 0)).addLoc (.var ((flatL [encP (t, u)]).map .val))) ha.size (by simp [sumX]) (by
       intro p hp
       rw [List.mem_singleton.1 hp]
       exact ⟨ha.var r1.1, hb.var r2.1, ha.size, hb.size⟩) (fun n w h => by cases h) ⟨[], by rw [Q45]; simp [flatP]⟩ ⟨[], 0, [], by simp [St.addLoc], .nil⟩ (by simp [St.addLoc]) gM
     refine ⟨s4, ?_, (g1.trans g2).trans g4⟩
     simp only [Bool.not_true, Bool.or_self, cond_false]
     simp only [encP, ct, cu, List.cons_append, List.nil_append, List.map_cons, List.map_nil, List.length_singleton] at e3 e4
     simp only [Sch.enc, Sch.cells, ct, cu] at e1 e2 ⊢
     simp only [go_sem, Nat.reduceAdd, Nat.reduceLeDiff, e1, e2, e3] at e4 ⊢
     exact e4
end Go.Proofs.YtobelgghegmhhaaGreatDoor
namespace Go.Am
open Go
mutual
def sizeR (l : List Ty) : Ty → Nat
 | .mk k n _ ags _ => bif decide (k = 1) && decide (n < l.length) then (l.getD n.toNat default).size else 1 + sizesR l ags
def sizesR (l : List Ty) : List Ty → Nat
 | [] => 0
 | t :: r => sizeR l t + sizesR l r
end
mutual
def put10 (l : List Ty) : Ty → Ty
 | .mk k n s a b => bif decide (k = 1) then (bif decide (n < l.length) then l.getD n.toNat default else .mk k n s a b) else .mk k n s (put10s l a) true
def put10s (l : List Ty) : List Ty → List Ty
 | [] => []
 | t :: r => put10 l t :: put10s l r
end
theorem Qay {l : List Ty} {M : Nat} (h : ∀ u ∈ l, u.size ≤ M) (i : Nat) (hi : i < l.length) : (l.getD i default).size ≤ M := by
 rw [List.getD_eq_getElem?_getD, List.getElem?_eq_getElem hi]
 exact h _ (List.getElem_mem hi)
mutual
theorem Qii {l : List Ty} {M : Nat} (h : ∀ u ∈ l, u.size ≤ M) : ∀ t : Ty, allTy (varB fun n => decide (0 ≤ n)) t = true → sizeR l t ≤ t.size * (M + 1)
 | .mk k n nm ags b, hp => by
   simp only [allTy, Bool.and_eq_true] at hp
   have h1 := Q6I h ags hp.2
   simp only [sizeR, Ty.size, Nat.add_mul]
   cases hk : decide (k = 1) && decide (n < l.length) with
   | false => simp only [cond_false]; omega
   | true =>
     simp only [Bool.and_eq_true, decide_eq_true_eq] at hk
     have hn : 0 ≤ n := by
      have := hp.1
      unfold varB at this
      simp [Ty.kind, Ty.n, hk.1] at this
      exact of_decide_eq_true this
     have := Qay h n.toNat (by omega)
     simp only [cond_true]; omega
theorem Q6I {l : List Ty} {M : Nat} (h : ∀ u ∈ l, u.size ≤ M) : ∀ r : List Ty, allTys (varB fun n => decide (0 ≤ n)) r = true → sizesR l r ≤ Ty.sizes r * (M + 1)
 | [], _ => by simp [sizesR]
 | t :: r, hp => by
   simp only [allTys, Bool.and_eq_true] at hp
   have h1 := Qii h t hp.1
   have h2 := Q6I h r hp.2
   simp only [sizesR, Ty.sizes, Nat.add_mul]; omega
end
end Go.Am
namespace Go.Proofs.YtobelgghegmhhaaGreatDoor
open Go Go.Am
set_option linter.unusedVariables false
set_option maxRecDepth 4000
theorem Q8c (vars : Int) (t : Ty) (s : St) (h : t.size < 2^28) (hn : NamesTy t) : Ret (cw (.f Q32) [.agg (.int .i64 vars :: t.cells)] s) s (.bool (rightSB vars t)) := by
 obtain ⟨s1, e1, g1⟩ := Q3Q t s h hn
 have c := Ty.cells_eq t
 have hc : rightSB vars t = (decide (vars ≥ 0) && (decide (vars ≤ 256) && rightTyB t)) := by
  unfold rightSB
  cases rightTyB t <;> cases decide (vars ≥ 0) <;> cases decide (vars ≤ 256) <;> rfl
 rw [Q9Z, hc]
 simp only [go_sem, Nat.reduceAdd, Nat.reduceLeDiff, c, Ty.enc] at e1 ⊢
 cases h1 : decide (vars ≥ 0) with
 | false => simp only [go_sem, h1]; exact Ret.same _ _
 | true =>
   cases h2 : decide (vars ≤ 256) with
   | false => simp only [go_sem, h1, h2]; exact Ret.same _ _
   | true => simp only [go_sem, h1, h2, e1]; exact ⟨s1, rfl, g1⟩
def SizeOK (l : List Ty) (v : AV) (t : Ty) : Prop := ∀ s, Ret (cw (.f Q11) [t.enc, v] s) s (.int .i64 (sizeR l t))
theorem Q4m (l : List Ty) (v : AV) (t : Ty) (hl : t.args.length < 2^40) (s0 : St) : ∀ (suf pre : List Ty) (n : Nat) (s : St) (i : Nat), Grew s0 s → pre ++ suf = t.args → i = pre.length → (∀ u ∈ suf, SizeOK l v u) → n + sizesR l suf < 2^62 →
  Ret (Q0K (.val v) (t.cells.map .val) (.val (.int .i64 n)) (.val (.int .i64 t.args.length)) (.val (.int .i64 i)) s) s0 (.int .i64 ((n + sizesR l suf : Nat) : Int))
 | [], pre, n, s, i, g, h, hi, H, hb => by
   subst hi
   rw [Q3S]; simp only [go_sem, Qi (by simpa using h), sizesR, Nat.add_zero]
   exact ⟨s, rfl, g⟩
 | u :: suf, pre, n, s, i, g, h, hi, H, hb => by
   subst hi
   have c := Ty.cells_eq t
   simp only [sizesR] at hb
   obtain ⟨f1, f2, f3⟩ := Qe (x := .val (encS t.nl (t.args.map Ty.enc))) (Qb _ _) h (by omega) (Ty.cells_len u) (by decide)
   obtain ⟨s1, e1, g1⟩ := H u List.mem_cons_self s
   have w1 : IntKind.i64.wrap ((n : Int) + (sizeR l u : Int)) = ((n + sizeR l u : Nat) : Int) := by rw [wrap64 (by omega) (by omega)]; rfl
   have ih := Q4m l v t hl s0 suf (pre ++ [u]) (n + sizeR l u) s1 (pre.length + 1) (g.trans g1) (by simpa using h) (by simp) (fun w hw => H w (List.mem_cons_of_mem _ hw)) (by omega)
   rw [Q3S]
   simp only [go_sem, Nat.reduceAdd, Nat.reduceLeDiff, c, f1, f2, f3, e1, w1, sizesR] at ih ⊢
   rw [show n + (sizeR l u + sizesR l suf) = n + sizeR l u + sizesR l suf by omega]
   exact ih
theorem Q4n (l : List Ty) (v : AV) (hv : (Slot.val v).list? = some (l.map Ty.enc)) (hl : l.length < 2^28) (hs : ∀ u ∈ l, u.size < 2^28) : ∀ (k : Nat) (t : Ty), t.size ≤ k → t.size < 2^28 → allTy (varB fun n => decide (0 ≤ n)) t = true → SizeOK l v t
 | 0, t, h, _, _ => by cases t; simp only [Ty.size] at h; omega
 | k + 1, t, h, h', hp => fun s => by
   have hsz : Ty.sizes t.args + 1 = t.size := by cases t; simp only [Ty.size, Ty.args]
   have hlen := Ty.len_sizes t.args
   have hp2 : allTys (varB fun n => decide (0 ≤ n)) t.args = true := by cases t; simp only [allTy, Bool.and_eq_true] at hp; exact hp.2
   have hp1 : varB (fun n => decide (0 ≤ n)) t = true := by cases t; simp only [allTy, Bool.and_eq_true] at hp; exact hp.1
   have HV : ∀ u ∈ t.args, SizeOK l v u := fun u hu => by
    have h2 := Ty.mem_sizes hu
    exact Q4n l v hv hl hs k u (by omega) (by omega) (Q2L hp2 u hu)
   have hT : sizeR l t = bif decide (t.kind = 1) && decide (t.n < l.length) then (l.getD t.n.toNat default).size else 1 + sizesR l t.args := by cases t; rfl
   have hbd := Q6I (M := 2^28) (fun u hu => Nat.le_of_lt (hs u hu)) t.args hp2
   have hbd2 : Ty.sizes t.args * (2^28 + 1) ≤ 2^28 * (2^28 + 1) := Nat.mul_le_mul_right _ (by omega)
   have c := Ty.cells_eq t
   obtain ⟨s1, e1, g1⟩ := Q4m l v t (by omega) s t.args [] 1 s 0 (.refl s) rfl rfl HV (by omega)
   rw [show ((0 : Nat) : Int) = 0 from rfl, show ((1 : Nat) : Int) = 1 from rfl] at e1
   rw [hT, Qbz]
   cases hk : decide (t.kind = 1) with
   | false =>
     simp only [go_sem, Nat.reduceAdd, Nat.reduceLeDiff, c, hk] at e1 ⊢
     exact ⟨s1, e1, g1⟩
   | true =>
     cases hn : decide (t.n < l.length) with
     | false =>
       simp only [go_sem, Nat.reduceAdd, Nat.reduceLeDiff, c, hk, hv, List.length_map, hn] at e1 ⊢
       exact ⟨s1, e1, g1⟩
     | true =>
       have h0 : 0 ≤ t.n := by
        unfold varB at hp1
        rw [hk] at hp1
        simpa using hp1
       obtain ⟨m, hm⟩ := Int.eq_ofNat_of_zero_le h0
       have hlt : m < l.length := by have := of_decide_eq_true hn; omega
       have hix : ixS 4 (.val v) (.val (.int .i64 t.n)) = some (.val (.cp l[m].cells)) := by rw [hm]; exact Q1o hv (v := l[m].enc) (by simp [hlt]) (Ty.cells_len _) (by decide)
       obtain ⟨s2, e2, g2⟩ := Q4j l[m] s (hs _ (List.getElem_mem hlt))
       have hg : l.getD t.n.toNat default = l[m] := by rw [hm]; simp [hlt]
       rw [hg]
       simp only [Ty.enc] at e2
       simp only [go_sem, Nat.reduceAdd, Nat.reduceLeDiff, c, hk, hv, List.length_map, hn, hix, e2]
       exact ⟨s2, rfl, g2⟩
def Put10OK (L : List Ty) (v : AV) (t : Ty) : Prop := ∀ s, Ret (cw (.f Q1u) [t.enc, v] s) s (put10 L t).enc
theorem Q6C (L : List Ty) (v : AV) (t : Ty) (hl : t.args.length < 2^28) (s0 : St) (z : List Slot) (hz : z.length = 4) : ∀ (suf pre A : List Ty) (x : Slot) (s : St) (i : Nat), AccH Q3 s0.toks.length [] s x (A.map Ty.enc) → Moves [] [] [] s0 s → pre ++ suf = t.args → i = pre.length → A.length = pre.length → (∀ t ∈ suf, Put10OK L v t) →
  Ret (Q1b (.val v) (t.cells.map .val) z [.val (.int .i64 t.kind), .val (.int .i64 t.n), .val (.str t.name), x] (.val (.int .i64 t.args.length)) (.val (.int .i64 i)) s) s0 (Ty.mk t.kind t.n t.name (A ++ put10s L suf) true).enc
 | [], pre, A, x, s, i, hA, hM, h, hi, hn, H => by
   subst hi
   rw [Q4l]; simp only [go_sem, Nat.reduceAdd, Nat.reduceLeDiff, Ty.cells_eq, Qi (by simpa using h), Zv hA.av, put10s, hz]
   exact ⟨_, by simp only [Ty.enc]; rw [Ty.cells_mk], hM.toGrew⟩
 | u :: suf, pre, A, x, s, i, hA, hM, h, hi, hn, H => by
   subst hi
   obtain ⟨f1, f2, f3⟩ := Qe (x := .val (encS t.nl (t.args.map Ty.enc))) (Qb _ _) h (by omega) (Ty.cells_len u) (by decide)
   obtain ⟨s1, e1, g1⟩ := H u List.mem_cons_self s
   have hlen : pre.length < t.args.length := by rw [← h]; simp
   have hM1 := hM.trans (.grew [] [] g1)
   obtain ⟨x1, s2, e2, a2, m2, -, -, -⟩ := tyAcc (A0 := []) (h0 := []) (h := []) (s0 := s0) (B := [put10 L u]) (y := .full [(put10 L u).enc]) (hA.move (.grew [] [] g1)) hM1 (by simp) rfl (by simp only [List.length_singleton]; omega)
   have ih := Q6C L v t hl s0 z hz suf (pre ++ [u]) (A ++ [put10 L u]) x1 s2 (pre.length + 1) a2 m2 (by simpa using h) (by simp) (by simp [hn]) (fun w hw => H w (List.mem_cons_of_mem _ hw))
   have c1 := a2.cellOk
   rw [Q4l]; rw [Ty.cells_eq] at ih ⊢; simp only [go_sem, Nat.reduceAdd, Nat.reduceLeDiff, f1, f2, f3, e1, e2, c1, put10s] at ih ⊢
   exact ih
theorem Q6D (L : List Ty) (v : AV) (hv : (Slot.val v).list? = some (L.map Ty.enc)) (hL : L.length < 2^40) : ∀ (k : Nat) (t : Ty), t.size ≤ k → t.size < 2^28 → allTy (varB fun n => decide (0 ≤ n)) t = true → Put10OK L v t
 | 0, t, h, _, _ => by cases t; simp only [Ty.size] at h; omega
 | k + 1, t, h, h', hp => fun s => by
   have hsz : Ty.sizes t.args + 1 = t.size := by cases t; simp only [Ty.size, Ty.args]
   have hlen := Ty.len_sizes t.args
   have hp2 : allTys (varB fun n => decide (0 ≤ n)) t.args = true := by cases t; simp only [allTy, Bool.and_eq_true] at hp; exact hp.2
   have hp1 : varB (fun n => decide (0 ≤ n)) t = true := by cases t; simp only [allTy, Bool.and_eq_true] at hp; exact hp.1
   have HV : ∀ u ∈ t.args, Put10OK L v u := fun u hu => by
    have h2 := Ty.mem_sizes hu
    exact Q6D L v hv hL k u (by omega) (by omega) (Q2L hp2 u hu)
   have hT : put10 L t = bif decide (t.kind = 1) then (bif decide (t.n < L.length) then L.getD t.n.toNat default else t) else .mk t.kind t.n t.name (put10s L t.args) true := by cases t; rfl
   have c := Ty.cells_eq t
   obtain ⟨s1, e1, g1⟩ := Q6C L v t (by omega) s [.val (.int .i64 0), .val (.int .i64 0), .val (.str []), .val .nils] rfl t.args [] [] (.val .nils) s 0 (.nil _ _ _ _) (.refl _ _ _) rfl rfl rfl HV
   rw [show ((0 : Nat) : Int) = 0 from rfl] at e1
   rw [hT, Qda]
   cases hk : decide (t.kind = 1) with
   | false =>
     simp only [go_sem, Nat.reduceAdd, Nat.reduceLeDiff, c, hk] at e1 ⊢
     exact ⟨s1, e1, g1⟩
   | true =>
     cases hn : decide (t.n < L.length) with
     | false =>
       simp only [go_sem, Nat.reduceAdd, Nat.reduceLeDiff, c, hk, hv, List.length_map, hn]
       exact ⟨s, by simp only [Ty.enc, c], .refl s⟩
     | true =>
       have h0 : 0 ≤ t.n := by
        unfold varB at hp1
        rw [hk] at hp1
        simpa using hp1
       obtain ⟨m, hm⟩ := Int.eq_ofNat_of_zero_le h0
       have hlt : m < L.length := by have := of_decide_eq_true hn; omega
       have hix : ixS 4 (.val v) (.val (.int .i64 t.n)) = some (.val (.cp L[m].cells)) := by rw [hm]; exact Q1o hv (v := L[m].enc) (by simp [hlt]) (Ty.cells_len _) (by decide)
       have hg : L.getD t.n.toNat default = L[m] := by rw [hm]; simp [hlt]
       have cm := Ty.cells_eq L[m]
       rw [hg]
       simp only [go_sem, Nat.reduceAdd, Nat.reduceLeDiff, c, hk, hv, List.length_map, hn, hix, cm]
       exact ⟨s, by simp only [Ty.enc, cm], .refl s⟩
end Go.Proofs.YtobelgghegmhhaaGreatDoor
namespace Go.Am
open Go
theorem Qh5 {p : UInt8 → Bool} : ∀ {l : Str}, l.all p = true → l.takeWhile p = l
 | [], _ => rfl
 | c :: l, h => by
   simp only [List.all_cons, Bool.and_eq_true] at h
   rw [List.takeWhile_cons, h.1, if_pos rfl, Qh5 h.2]
theorem Qgi {c : UInt8} (h : firC c = true) : digC c = false ∧ blankC c = false ∧ decide (c = 40) = false := by
 unfold firC firB at h
 simp only [Bool.or_eq_true, Bool.and_eq_true, decide_eq_true_eq] at h
 refine ⟨?_, ?_, ?_⟩
 ·unfold digC digB
  rw [Bool.and_eq_false_iff, decide_eq_false_iff_not, decide_eq_false_iff_not]
  omega
 ·unfold blankC
  have : ∀ x : UInt8, x.toNat ≤ 32 → decide (c = x) = false := fun x hx => decide_eq_false (by rintro rfl; omega)
  rw [this 32 (by decide), this 9 (by decide), this 10 (by decide), this 13 (by decide)]; rfl
 ·exact decide_eq_false (by rintro rfl; revert h; decide)
theorem QgR {nm : Str} (h0 : nm ≠ []) (hf : firC (nm.headD 0) = true) (ha : nm.all amoC = true) (h95 : nm ≠ [95]) (hl : nm.length ≤ 32) : lxScan nm = ([⟨namedA nm, 0, nm, 0⟩], 0, 0) := by
 obtain ⟨c, r, rfl⟩ := List.exists_cons_of_ne_nil h0
 have hf : firC c = true := hf
 obtain ⟨f1, f2, f3⟩ := Qgi hf
 have ho : lxOpens (c :: r) = false := by
  unfold lxOpens
  cases r with
  | nil => rfl
  | cons d r => simp only [f3, Bool.false_and]
 have h1 : oneA (c :: r) (tildeL []) = (0, ⟨namedA (c :: r), 0, c :: r, 0⟩) := by
  unfold oneA
  rw [Qh5 ha]
  simp only [List.headD_cons, f1, hf, cond_false, cond_true, decide_eq_false h95, decide_eq_false (show ¬ ((c :: r).length : Int) > 32 by omega)]
 have hz : scanF r.length (0 + (c :: r).length) ((c :: r).drop (c :: r).length) ([] ++ [⟨namedA (c :: r), 0, c :: r, 0⟩]) = ([⟨namedA (c :: r), 0, c :: r, 0⟩], 0, 0) := by
  rw [List.drop_length]
  cases r.length <;> rfl
 unfold lxScan
 rw [decide_eq_false (by omega), cond_false]
 show scanF (r.length + 1 + 1) 0 (c :: r) [] = _
 unfold scanF
 simp only [f2, ho, cond_false, h1, List.length_nil, decide_true, cond_true]
 rw [decide_eq_false (by omega), cond_false]
 unfold scanF
 rw [List.drop_length]
 rfl
theorem Qdp {nm : Str} (h0 : nm ≠ []) (hf : firC (nm.headD 0) = true) (ha : nm.all amoC = true) (h95 : nm ≠ [95]) (hl : nm.length ≤ 32) (hn : namedA nm = 2) : tokB nm = true := by
 unfold tokB
 rw [QgR h0 hf ha h95 hl]
 simp [hn]
theorem Qjq : ∀ w ∈ [116, 114, 117, 101] :: [102, 97, 108, 115, 101] :: [95] :: lwords, lowB w = false := by decide +kernel
theorem Qie (n : Int) (h : unrestB n = false) : amoB n = true := by
 unfold unrestB smallB greatB at h
 unfold amoB firB digB
 by_cases h1 : n ≥ 97 <;> by_cases h2 : n ≤ 122 <;> by_cases h3 : n = 95 <;> by_cases h4 : n ≥ 65 <;> by_cases h5 : n ≤ 90 <;> by_cases h6 : n < 48 <;> by_cases h7 : n > 57 <;> by_cases h8 : n = 39 <;> simp [h1, h2, h3, h4, h5, h6, h7, h8] at h ⊢ <;> omega
theorem QjD {nm : Str} (h : lowB nm = true) : tokB nm = true := by
 have hw : ∀ w ∈ [116, 114, 117, 101] :: [102, 97, 108, 115, 101] :: [95] :: lwords, nm ≠ w := fun w hm e => by
  have := Qjq w hm
  rw [← e, h] at this; cases this
 have h' := h
 unfold lowB runB restAll at h
 simp only [Bool.and_eq_true, Bool.not_eq_true', decide_eq_false_iff_not, decide_eq_true_eq] at h
 obtain ⟨⟨⟨h0, hs⟩, hr, hl⟩, -⟩ := h
 obtain ⟨c, r, rfl⟩ := List.exists_cons_of_ne_nil h0
 have hs : smallB (c.toNat : Int) = true := hs
 have hf : firC c = true := by
  unfold smallB at hs
  unfold firC firB
  simp only [Bool.or_eq_true] at hs ⊢
  exact hs.elim (fun x => .inl (.inl x)) .inr
 refine Qdp h0 hf ?_ (hw [95] (by simp)) hl ?_
 ·rw [List.all_cons, show amoC c = true by unfold amoC amoB; unfold firC at hf; rw [hf]; rfl, Bool.true_and]
  rw [List.all_eq_true] at hr ⊢
  exact fun d hd => Qie _ (by simpa using hr d hd)
 ·have e1 : hasL lwords (c :: r) = false := by
   unfold hasL
   rw [List.any_eq_false]
   exact fun w hm => by simpa using hw w (by simp [hm])
  unfold namedA
  rw [e1, cond_false, decide_eq_false (hw [116, 114, 117, 101] (by simp)), decide_eq_false (hw [102, 97, 108, 115, 101] (by simp))]
  have hd : (c :: r).headD 0 = c := rfl
  rw [hd]
  unfold smallB at hs
  simp only [Bool.or_eq_true, Bool.and_eq_true, decide_eq_true_eq] at hs
  rw [decide_eq_false (show ¬ ((c.toNat : Int) ≤ 90) by omega), Bool.and_false]
  rfl
end Go.Am
namespace Go.Am
open Go
def joinS (sep : Str) : List Str → Bool → Str
 | [], _ => []
 | s :: r, f => (bif f then s else sep ++ s) ++ joinS sep r false
def parS (b : Bool) (s : Str) : Str := bif b then 40 :: (s ++ [41]) else s
mutual
def txt10 (vars : Int) : Ty → Str
 | .mk k n nm ags _ =>
   bif decide (k = 1) then (bif decide (n < vars) then 39 :: letT n else 95 :: letT (n - vars))
   else bif decide (ags.length = 0) then nm
   else bif decide (nm = [45, 62]) then (ats10 vars ags 1).getD 0 [] ++ ([32, 45, 62, 32] ++ (ats10 vars ags 0).getD 1 [])
   else bif decide (nm = [42]) then joinS [32, 42, 32] (ats10 vars ags 2) true
   else bif decide (ags.length = 1) then (ats10 vars ags 2).getD 0 [] ++ (32 :: nm)
   else 40 :: (joinS [44, 32] (ats10 vars ags 0) true ++ (41 :: 32 :: nm))
def ats10 (vars : Int) : List Ty → Int → List Str
 | [], _ => []
 | t :: l, lv => parS (decide (levelT t < lv)) (txt10 vars t) :: ats10 vars l lv
end
def at10 (vars : Int) (t : Ty) (lv : Int) : Str := parS (decide (levelT t < lv)) (txt10 vars t)
theorem Q65 (vars : Int) (lv : Int) : ∀ l : List Ty, ats10 vars l lv = l.map fun t => at10 vars t lv
 | [] => rfl
 | t :: l => by simp only [ats10, List.map_cons, Q65 vars lv l, at10]
def show10 (vars : Int) (t : Ty) : Str := bif rightSB vars t then txt10 vars t else []
structure NiceT (l : List Str) : Prop where
 fst : ∃ s r, l = s :: r ∧ hasL glueR s = false
 lst : ∃ q z, l = q ++ [z] ∧ hasL glueL z = false
theorem Qgo (z : Str) (b : List Str) : ∀ (q : List Str) (p : Option Str), textGo p (q ++ z :: b) = textGo p (q ++ [z]) ++ textGo (some z) b
 | [], p => by simp [textGo]
 | s :: q, p => by simp only [List.cons_append, textGo, Qgo z b q, List.append_assoc]
theorem NiceT.app {l : List Str} (h : NiceT l) : ∃ z, hasL glueL z = false ∧ ∀ p b, textGo p (l ++ b) = textGo p l ++ textGo (some z) b := by
 obtain ⟨q, z, rfl, hz⟩ := h.lst
 exact ⟨z, hz, fun p b => by rw [List.append_assoc, List.singleton_append, Qgo]⟩
theorem NiceT.some {l : List Str} (h : NiceT l) (q : Str) : textGo (some q) l = bif hasL glueL q then textB l else 32 :: textB l := by
 obtain ⟨s, r, rfl, hs⟩ := h.fst
 simp only [textB, textGo, sepB, hs, Bool.not_false, Bool.and_true, cond_false]
 cases hasL glueL q <;> rfl
theorem NiceT.one {s : Str} (h1 : hasL glueR s = false) (h2 : hasL glueL s = false) : NiceT [s] := ⟨⟨s, [], rfl, h1⟩, ⟨[], s, rfl, h2⟩⟩
theorem NiceT.cat {a b c : List Str} (ha : NiceT a) (hc : NiceT c) : NiceT (a ++ (b ++ c)) := by
 obtain ⟨s, r, rfl, h1⟩ := ha.fst
 obtain ⟨q, z, rfl, h2⟩ := hc.lst
 exact ⟨⟨s, r ++ (b ++ (q ++ [z])), by simp, h1⟩, ⟨(s :: r) ++ (b ++ q), z, by simp, h2⟩⟩
theorem NiceT.par {l : List Str} (b : Bool) (h : NiceT l) : NiceT (parT b l) := by
 cases b with
 | false => exact h
 | true => exact ⟨⟨[40], l ++ [[41]], rfl, by decide⟩, ⟨[40] :: l, [41], by simp [parT], by decide⟩⟩
theorem Q8j {l : List Str} (b : Bool) (h : NiceT l) : textB (parT b l) = parS b (textB l) := by
 cases b with
 | false => rfl
 | true =>
   obtain ⟨z, hz, ha⟩ := h.app
   show textGo none ([40] :: (l ++ [[41]])) = 40 :: (textB l ++ [41])
   have h1 := h.some [40]
   rw [show hasL glueL [40] = true by decide, cond_true] at h1
   simp only [textGo, sepB, cond_false]
   rw [ha, h1]
   simp only [textGo, sepB]
   rw [show hasL glueR [41] = true by decide]
   simp
theorem Qiq {a b : List Str} (m : Str) (ha : NiceT a) (hb : NiceT b) (h1 : hasL glueR m = false) (h2 : hasL glueL m = false) : textB (a ++ ([m] ++ b)) = textB a ++ (32 :: (m ++ 32 :: textB b)) := by
 obtain ⟨z, hz, h⟩ := ha.app
 unfold textB at *
 rw [h]
 simp only [List.singleton_append, textGo, sepB, h1, hz, Bool.not_false, Bool.and_self, cond_true]
 rw [hb.some m, h2]
 rfl
theorem Qdo {a : List Str} (m : Str) (ha : NiceT a) (h1 : hasL glueR m = false) : textB (a ++ [m]) = textB a ++ (32 :: m) := by
 obtain ⟨z, hz, h⟩ := ha.app
 unfold textB at *
 rw [h]
 simp only [textGo, sepB, h1, hz, Bool.not_false, Bool.and_self, cond_true, List.append_nil]
theorem Q55 (sign sep : Str) (hg : hasL glueL sign = false) (hsep : ∀ z, hasL glueL z = false → textGo (some z) [sign] ++ [32] = sep) : ∀ (L : List (List Str)) (z : Str), (∀ l ∈ L, NiceT l) → hasL glueL z = false → textGo (some z) (joinT sign L false) = joinS sep (L.map textB) false
 | [], z, _, _ => rfl
 | l :: L, z, hL, hz => by
   have hl := hL l List.mem_cons_self
   obtain ⟨w, hw, h⟩ := hl.app
   have ih := Q55 sign sep hg hsep L w (fun x hx => hL x (List.mem_cons_of_mem _ hx)) hw
   have e := hsep z hz
   simp only [textGo, List.append_nil] at e
   simp only [joinT, cond_false, List.cons_append, textGo, h, ih, List.map_cons, joinS, hl.some sign, hg]
   rw [← e]
   simp
theorem Qb5 (sign sep : Str) (hg : hasL glueL sign = false) (hsep : ∀ z, hasL glueL z = false → textGo (some z) [sign] ++ [32] = sep) (L : List (List Str)) (hL : ∀ l ∈ L, NiceT l) : textB (joinT sign L true) = joinS sep (L.map textB) true := by
 cases L with
 | nil => rfl
 | cons l L =>
   have hl := hL l List.mem_cons_self
   obtain ⟨w, hw, h⟩ := hl.app
   have ih := Q55 sign sep hg hsep L w (fun x hx => hL x (List.mem_cons_of_mem _ hx)) hw
   unfold textB at *
   simp only [joinT, cond_true, h, ih, List.map_cons, joinS]
theorem Qig : ∀ z, hasL glueL z = false → textGo (some z) [[42]] ++ [32] = [32, 42, 32] := by
 intro z hz
 simp only [textGo, sepB, hz]
 rw [show hasL glueR [42] = false by decide]; rfl
theorem QgS : ∀ z, hasL glueL z = false → textGo (some z) [[44]] ++ [32] = [44, 32] := by
 intro z hz
 simp only [textGo, sepB, hz]
 rw [show hasL glueR [44] = true by decide]; rfl
theorem QaI (sign : Str) : ∀ (L : List (List Str)) (f : Bool), L ≠ [] → (∀ l ∈ L, NiceT l) → ∃ q z, joinT sign L f = q ++ [z] ∧ hasL glueL z = false
 | [l], f, _, hL => by
   obtain ⟨q, z, rfl, hz⟩ := (hL l List.mem_cons_self).lst
   cases f with
   | true => exact ⟨q, z, by simp [joinT], hz⟩
   | false => exact ⟨sign :: q, z, by simp [joinT], hz⟩
 | l :: m :: L, f, _, hL => by
   obtain ⟨q, z, e, hz⟩ := QaI sign (m :: L) false (by simp) (fun x hx => hL x (List.mem_cons_of_mem _ hx))
   exact ⟨(bif f then l else sign :: l) ++ q, z, by rw [joinT, e, List.append_assoc], hz⟩
theorem NiceT.join (sign : Str) {L : List (List Str)} (h : L ≠ []) (hL : ∀ l ∈ L, NiceT l) : NiceT (joinT sign L true) := by
 refine ⟨?_, QaI sign L true h hL⟩
 cases L with
 | nil => exact absurd rfl h
 | cons l L =>
   obtain ⟨s, r, rfl, hs⟩ := (hL l List.mem_cons_self).fst
   exact ⟨s, r ++ joinT sign L false, by simp [joinT], hs⟩
theorem Qfm : ∀ w ∈ glueL ++ glueR, ((givenB w).2.2 || lowB w) = false := by decide +kernel
theorem QgB {nm : Str} (h : ((givenB nm).2.2 || lowB nm) = true) : hasL glueL nm = false ∧ hasL glueR nm = false := by
 have hw : ∀ w ∈ glueL ++ glueR, nm ≠ w := fun w hm e => by
  have := Qfm w hm
  rw [← e, h] at this; cases this
 unfold hasL
 rw [List.any_eq_false, List.any_eq_false]
 exact ⟨fun w hm => by simpa using hw w (List.mem_append_left _ hm), fun w hm => by simpa using hw w (List.mem_append_right _ hm)⟩
theorem Q3G {k n : Int} {nm : Str} {l : List Ty} {b : Bool} (h : goodB (.mk k n nm l b) = true) (hk : decide (k = 1) = false) : k = 2 ∧ n = 0 ∧ ((givenB nm).1 ≤ l.length ∧ (l.length : Int) ≤ (givenB nm).2.1) ∧ ((givenB nm).2.2 || lowB nm) = true := by
 have h : goodC k n nm l.length (lowB nm) = true := h
 unfold goodC at h
 rw [hk, cond_false] at h
 cases h2 : decide (k = 2) with
 | false => rw [h2] at h; cases h
 | true =>
   rw [h2] at h
   simp only [cond_true, Bool.and_eq_true, decide_eq_true_eq] at h
   exact ⟨of_decide_eq_true h2, h.1.1.1, ⟨h.1.1.2, h.1.2⟩, h.2⟩
theorem QhO : givenB [45, 62] = (2, 2, true) := by decide +kernel
theorem Qfj : givenB [42] = (2, 8, true) := by decide +kernel
theorem Qhz {k n : Int} {nm : Str} {l : List Ty} {b : Bool} (h : goodB (.mk k n nm l b) = true) (hk : decide (k = 1) = false) : tellN nm l.length = true := by
 obtain ⟨-, -, ⟨h1, h2⟩, h3⟩ := Q3G h hk
 unfold tellN
 unfold givenB at h1 h2 h3
 cases c1 : decide (nm = [105, 110, 116]) with
 | true => rw [c1] at h1 h2; simp only [Bool.true_or, cond_true] at h1 h2 ⊢; exact decide_eq_true (by omega)
 | false =>
   cases c2 : decide (nm = [98, 111, 111, 108]) with
   | true => rw [c1, c2] at h1 h2; simp only [Bool.false_or, Bool.true_or, cond_true] at h1 h2 ⊢; exact decide_eq_true (by omega)
   | false =>
     cases c3 : decide (nm = [117, 110, 105, 116]) with
     | true => rw [c1, c2, c3] at h1 h2; simp only [Bool.false_or, Bool.true_or, cond_true] at h1 h2 ⊢; exact decide_eq_true (by omega)
     | false =>
       cases c4 : decide (nm = [101, 120, 110]) with
       | true => rw [c1, c2, c3, c4] at h1 h2; simp only [Bool.false_or, cond_true] at h1 h2 ⊢; exact decide_eq_true (by omega)
       | false =>
         rw [c1, c2, c3, c4] at h1 h2 h3
         simp only [Bool.false_or, cond_false] at h1 h2 h3 ⊢
         cases c5 : decide (nm = [114, 101, 102]) with
         | true => rw [c5] at h1 h2; simp only [cond_true] at h1 h2 ⊢; exact decide_eq_true (by omega)
         | false =>
           rw [c5] at h1 h2 h3
           simp only [cond_false] at h1 h2 h3 ⊢
           cases c6 : decide (nm = [45, 62]) with
           | true => rw [c6] at h1 h2; simp only [cond_true] at h1 h2 ⊢; exact decide_eq_true (by omega)
           | false =>
             rw [c6] at h1 h2 h3
             simp only [cond_false] at h1 h2 h3 ⊢
             cases c7 : decide (nm = [42]) with
             | true => rw [c7] at h1 h2; simp only [cond_true, Bool.and_eq_true, decide_eq_true_eq] at h1 h2 ⊢; omega
             | false =>
               rw [c7] at h1 h2 h3
               simp only [cond_false, Bool.false_or] at h1 h2 h3 ⊢
               rw [QjD h3, Bool.true_and]
               exact decide_eq_true (by omega)
theorem Qf9 : ∀ u : Nat, (Go.Lib.decDigits u).all amoC = true := by
 intro u
 induction u using Nat.strongRecOn with
 | _ u ih =>
   have hd : ∀ m, m < 10 → amoC (UInt8.ofNat (48 + m)) = true := by
    intro m hm
    have : m = 0 ∨ m = 1 ∨ m = 2 ∨ m = 3 ∨ m = 4 ∨ m = 5 ∨ m = 6 ∨ m = 7 ∨ m = 8 ∨ m = 9 := by omega
    rcases this with rfl | rfl | rfl | rfl | rfl | rfl | rfl | rfl | rfl | rfl <;> decide
   rw [Go.Lib.decDigits]
   by_cases h : u < 10
   ·rw [dif_pos h]
    simp only [List.all_cons, List.all_nil, Bool.and_true]
    exact hd u h
   ·rw [dif_neg h, List.all_append, ih (u / 10) (by omega)]
    simp only [List.all_cons, List.all_nil, Bool.and_true, Bool.true_and]
    exact hd _ (by omega)
def keptN (m : Int) : Str := 95 :: (letT (m % 26) ++ bif decide (m / 26 = 0) then [] else Go.Lib.itoa (m / 26))
theorem Qcy : ∀ r : Nat, r < 26 → amoC (UInt8.ofNat (97 + r)) = true := by
 intro r hr
 have : ∀ i : Fin 26, amoC (UInt8.ofNat (97 + i.val)) = true := by decide
 exact this ⟨r, hr⟩
theorem Q3t {m : Int} (h : 0 ≤ m) : letT (m % 26) = [UInt8.ofNat (97 + (m % 26).toNat)] := by
 unfold letT
 rw [decide_eq_false (by omega), cond_false]
 congr 2
 omega
theorem QhV {m : Int} (h : 0 ≤ m) : keptN m = 95 :: letT m := by
 unfold keptN
 rw [Q3t h]
 unfold letT
 have h1 : (97 + m % 26).toNat = 97 + (m % 26).toNat := by omega
 rw [h1]
 by_cases hm : m > 25
 ·rw [decide_eq_true hm, decide_eq_false (by omega)]; rfl
 ·rw [decide_eq_false hm, decide_eq_true (by omega)]; rfl
theorem Qi2 : ∀ w ∈ lwords, w.headD 0 ≠ 95 := by decide
theorem Qcv {m : Int} (h : 0 ≤ m) (h' : m ≤ 9223372036854775807) : tokB (keptN m) = true ∧ (keptN m).length ≤ 32 := by
 have hl : (keptN m).length ≤ 32 := by
  unfold keptN
  rw [Q3t h]
  have := Go.Lib.itoa_length_le (m / 26) (by omega) (by omega)
  cases decide (m / 26 = 0) <;> simp <;> omega
 refine ⟨Qdp (by simp [keptN]) rfl ?_ ?_ hl ?_, hl⟩
 ·unfold keptN
  rw [Q3t h]
  simp only [List.all_cons, List.all_append, List.all_nil, Bool.and_true, Qcy _ (show (m % 26).toNat < 26 by omega)]
  rw [show amoC 95 = true by decide]
  cases decide (m / 26 = 0) with
  | true => rfl
  | false =>
    obtain ⟨u, hu⟩ := Int.eq_ofNat_of_zero_le (show 0 ≤ m / 26 by omega)
    rw [hu, Go.Lib.itoa_nonneg]
    simp only [cond_false, Qf9, Bool.and_self]
 ·unfold keptN
  rw [Q3t h]
  simp
 ·have e1 : hasL lwords (keptN m) = false := by
   unfold hasL
   rw [List.any_eq_false]
   intro w hm
   simp only [decide_eq_true_eq]
   intro e
   exact Qi2 w hm (by rw [← e]; rfl)
  unfold namedA
  rw [e1]
  unfold keptN
  simp
theorem QaF (m : Int) : hasL glueL (keptN m) = false ∧ hasL glueR (keptN m) = false := by
 unfold hasL keptN glueL glueR
 simp
theorem Qdx (n : Int) : hasL glueL (39 :: letT n) = false ∧ hasL glueR (39 :: letT n) = false := by
 unfold hasL glueL glueR
 simp
end Go.Am
namespace Go.Am
open Go
def ShowsT (vars : Int) (t : Ty) : Prop := ∀ lv : Int, lv ≤ 2 → NiceT (typT (rebT (showF vars) t) lv) ∧ textB (typT (rebT (showF vars) t) lv) = at10 vars t lv
def VarOK (t : Ty) : Prop := allTy (varB fun n => decide (0 ≤ n) && decide (n ≤ 9223372036854775807)) t = true
theorem Q4w (vars lv : Int) : ∀ l : List Ty, typTs (rebTs (showF vars) l) lv = l.map fun t => typT (rebT (showF vars) t) lv
 | [] => rfl
 | t :: l => by simp only [rebTs, typTs, List.map_cons, Q4w vars lv l]
theorem Q2o {vars lv : Int} (hlv : lv ≤ 2) {l : List Ty} (h : ∀ t ∈ l, ShowsT vars t) : (∀ x ∈ typTs (rebTs (showF vars) l) lv, NiceT x) ∧ (typTs (rebTs (showF vars) l) lv).map textB = ats10 vars l lv := by
 rw [Q4w, Q65]
 refine ⟨fun x hx => ?_, ?_⟩
 ·obtain ⟨t, ht, rfl⟩ := List.mem_map.1 hx
  exact (h t ht lv hlv).1
 ·rw [List.map_map]
  exact List.map_congr_left fun t ht => (h t ht lv hlv).2
theorem QaR (f : Int → Ty) (l : List Ty) : (rebTs f l).length = l.length := by rw [Q6A, List.length_map]
theorem QaY (vars : Int) (hv : 0 ≤ vars ∧ vars ≤ 256) : ∀ (m : Nat) (t : Ty), t.size ≤ m → allTy goodB t = true → VarOK t → ShowsT vars t
 | 0, t, h, _, _ => by have := Ty.size_pos t; omega
 | m + 1, .mk k n nm ags b, h, hg, hp => fun lv hlv => by
   have hg0 := hg
   simp only [allTy, Bool.and_eq_true] at hg
   unfold VarOK at hp
   simp only [allTy, Bool.and_eq_true] at hp
   simp only [Ty.size] at h
   simp only [rebT]
   cases hk : decide (k = 1) with
   | true =>
     obtain ⟨h0, rfl, rfl⟩ := Q1Q hg.1 hk
     have hn := Q1R hp.1 hk
     simp only [Bool.and_eq_true, decide_eq_true_eq] at hn
     obtain rfl := of_decide_eq_true hk
     have hlev : levelT (.mk 1 n [] [] b) = 2 := rfl
     have hat : at10 vars (.mk 1 n [] [] b) lv = bif decide (n < vars) then 39 :: letT n else 95 :: letT (n - vars) := by
      unfold at10 parS
      rw [hlev, decide_eq_false (by omega), cond_false]
      simp only [txt10, decide_true, cond_true]
     rw [hat, cond_true]
     unfold showF
     cases hd : decide (n < vars) with
     | true =>
       simp only [cond_true, tvar, typT, decide_true]
       exact ⟨.one (Qdx n).2 (Qdx n).1, by simp [textB, textGo, sepB]⟩
     | false =>
       have hd' := of_decide_eq_false hd
       have hkn : (95 :: (letT ((n - vars) % 26) ++ bif decide ((n - vars) / 26 = 0) then [] else Go.Lib.itoa ((n - vars) / 26))) = keptN (n - vars) := rfl
       have hne1 : decide (keptN (n - vars) = [45, 62]) = false := by unfold keptN; simp
       have hne2 : decide (keptN (n - vars) = [42]) = false := by unfold keptN; simp
       simp only [cond_false, hkn, ofTy, List.map_nil, typT, hne1, hne2]
       rw [show decide ((2 : Int) = 1) = false from rfl, show decide (([] : List Ty).length = 0) = true from rfl]
       simp only [cond_false, cond_true]
       exact ⟨.one (QaF _).2 (QaF _).1, by rw [← QhV (by omega)]; simp [textB, textGo, sepB]⟩
   | false =>
     obtain ⟨rfl, rfl, ⟨hl1, hl2⟩, hnm⟩ := Q3G hg.1 hk
     have HV : ∀ u ∈ ags, ShowsT vars u := fun u hu => by
      have h2 := Ty.mem_sizes hu
      exact QaY vars hv m u (by omega) (Q2P hg.2 u hu) (Q2P hp.2 u hu)
     obtain ⟨g1, g2⟩ := QgB hnm
     simp only [cond_false, typT, QaR, hk]
     have hat : at10 vars (.mk 2 0 nm ags b) lv = parS (decide (levelT (.mk 2 0 nm ags b) < lv)) (txt10 vars (.mk 2 0 nm ags b)) := rfl
     rw [hat]
     simp only [txt10, hk, cond_false]
     have hlev : levelT (.mk 2 0 nm ags b) = bif decide (nm = [45, 62]) then 0 else bif decide (nm = [42]) then 1 else 2 := rfl
     rw [hlev]
     cases c1 : decide (nm = [45, 62]) with
     | true =>
       obtain rfl := of_decide_eq_true c1
       rw [QhO] at hl1 hl2
       obtain ⟨a1, a2⟩ := Q2o (vars := vars) (lv := 1) (by decide) HV
       obtain ⟨b1, b2⟩ := Q2o (vars := vars) (lv := 0) (by decide) HV
       match ags, hl1, hl2 with
       | [x, y], _, _ =>
         simp only [rebTs, typTs, List.map_cons, List.map_nil, ats10, List.cons.injEq, and_true] at a1 a2 b1 b2
         have ha := a1 (typT (rebT (showF vars) x) 1) (by simp)
         have hb := b1 (typT (rebT (showF vars) y) 0) (by simp)
         have hm := Qiq [45, 62] ha hb (by decide) (by decide)
         have hN : NiceT (typT (rebT (showF vars) x) 1 ++ ([[45, 62]] ++ typT (rebT (showF vars) y) 0)) := .cat ha hb
         simp only [rebTs, typTs, ats10, List.getD_cons_zero, List.getD_cons_succ, cond_true, cond_false, List.append_assoc]
         rw [show decide (([x, y] : List Ty).length = 0) = false from rfl, cond_false]
         refine ⟨.par _ hN, ?_⟩
         rw [Q8j _ hN, hm, a2.1, b2.2]
         rfl
       | [], h, _ => simp at h
       | [_], h, _ => simp at h
       | _ :: _ :: _ :: _, _, h => simp at h; omega
     | false =>
       cases c2 : decide (nm = [42]) with
       | true =>
         obtain rfl := of_decide_eq_true c2
         rw [Qfj] at hl1
         have hne : ags ≠ [] := by rintro rfl; simp at hl1
         obtain ⟨a1, a2⟩ := Q2o (vars := vars) (lv := 2) (by decide) HV
         have hne' : typTs (rebTs (showF vars) ags) 2 ≠ [] := by rw [Q4w]; simpa using hne
         have hN := NiceT.join [42] hne' a1
         simp only [cond_true, cond_false]
         have hz : decide (ags.length = 0) = false := decide_eq_false (by simpa using hne)
         simp only [hz, cond_false]
         refine ⟨.par _ hN, ?_⟩
         rw [Q8j _ hN, Qb5 [42] [32, 42, 32] (by decide) Qig _ a1, a2]
       | false =>
         simp only [cond_false]
         have hlv2 : decide ((2 : Int) < lv) = false := decide_eq_false (by omega)
         cases c3 : decide (ags.length = 0) with
         | true =>
           simp only [cond_true, hlv2, parS, cond_false]
           exact ⟨.one g2 g1, by simp [textB, textGo, sepB]⟩
         | false =>
           simp only [cond_false, hlv2, parS]
           cases c4 : decide (ags.length = 1) with
           | true =>
             obtain ⟨a1, a2⟩ := Q2o (vars := vars) (lv := 2) (by decide) HV
             match ags, of_decide_eq_true c4 with
             | [x], _ =>
               simp only [rebTs, typTs, List.map_cons, List.map_nil, ats10, List.cons.injEq, and_true] at a1 a2
               have ha := a1 (typT (rebT (showF vars) x) 2) (by simp)
               simp only [rebTs, typTs, ats10, List.getD_cons_zero, cond_true]
               refine ⟨by simpa using NiceT.cat (b := []) ha (.one g2 g1), ?_⟩
               rw [Qdo nm ha g2, a2]
           | false =>
             obtain ⟨a1, a2⟩ := Q2o (vars := vars) (lv := 0) (by decide) HV
             have hne : ags ≠ [] := by rintro rfl; simp at c3
             have hne' : typTs (rebTs (showF vars) ags) 0 ≠ [] := by rw [Q4w]; simpa using hne
             have hN := NiceT.join [44] hne' a1
             have hP : NiceT ([40] :: (joinT [44] (typTs (rebTs (showF vars) ags) 0) true ++ [[41]])) := hN.par true
             have hT := Q8j true hN
             simp only [parT, cond_true] at hT
             simp only [cond_false]
             refine ⟨by simpa using NiceT.cat (b := []) hP (.one g2 g1), ?_⟩
             rw [Qdo nm hP g2, hT, Qb5 [44] [44, 32] (by decide) QgS _ a1, a2]
             simp [parS]
mutual
theorem Qdq (vars : Int) (hv : 0 ≤ vars ∧ vars ≤ 256) : ∀ t : Ty, allTy goodB t = true → VarOK t → allTy tellB (rebT (showF vars) t) = true
 | .mk k n nm ags b, hg, hp => by
   simp only [allTy, Bool.and_eq_true] at hg
   unfold VarOK at hp
   simp only [allTy, Bool.and_eq_true] at hp
   simp only [rebT]
   cases hk : decide (k = 1) with
   | true =>
     have hn := Q1R hp.1 hk
     simp only [Bool.and_eq_true, decide_eq_true_eq] at hn
     rw [cond_true]
     unfold showF
     cases hd : decide (n < vars) with
     | true =>
       have hd' := of_decide_eq_true hd
       have h1000 : n ≤ 1000 := by omega
       simp [tvar, allTy, allTys, tellB, Ty.kind, Ty.n, Ty.name, Ty.args, hn.1, h1000]
     | false =>
       have hd' := of_decide_eq_false hd
       have hkn : (95 :: (letT ((n - vars) % 26) ++ bif decide ((n - vars) / 26 = 0) then [] else Go.Lib.itoa ((n - vars) / 26))) = keptN (n - vars) := rfl
       have ht := (Qcv (m := n - vars) (by omega) (by omega)).1
       have hne : ∀ w : Str, w.headD 0 ≠ 95 → decide (keptN (n - vars) = w) = false := fun w hw => decide_eq_false (by rintro e; exact hw (by rw [← e]; rfl))
       rw [hkn]
       show (tellN (keptN (n - vars)) 0 && true) = true
       unfold tellN
       rw [hne [105, 110, 116] (by decide), hne [98, 111, 111, 108] (by decide), hne [117, 110, 105, 116] (by decide), hne [101, 120, 110] (by decide), hne [114, 101, 102] (by decide), hne [45, 62] (by decide), hne [42] (by decide), ht]
       rfl
   | false =>
     obtain ⟨rfl, rfl, -, -⟩ := Q3G hg.1 hk
     have ht := Qhz hg.1 hk
     simp only [cond_false, allTy, Qbb vars hv ags hg.2 hp.2, Bool.and_true, tellB, Ty.kind, Ty.n, Ty.name, Ty.args, QaR, ht, hk]
     rfl
theorem Qbb (vars : Int) (hv : 0 ≤ vars ∧ vars ≤ 256) : ∀ l : List Ty, allTys goodB l = true → allTys (varB fun n => decide (0 ≤ n) && decide (n ≤ 9223372036854775807)) l = true → allTys tellB (rebTs (showF vars) l) = true
 | [], _, _ => rfl
 | t :: l, hg, hp => by
   simp only [allTys, Bool.and_eq_true] at hg hp
   simp only [rebTs, allTys, Qdq vars hv t hg.1 hp.1, Qbb vars hv l hg.2 hp.2, Bool.and_self]
end
theorem QgV (vars n : Int) : (showF vars n).size = 1 := by
 unfold showF
 cases decide (n < vars) <;> rfl
theorem Qih (vars : Int) (t : Ty) (hp : rightSB vars t = true → VarOK t) : schemeT vars t = show10 vars t := by
 unfold schemeT show10
 cases hr : rightSB vars t with
 | false => rfl
 | true =>
   have hp := hp hr
   obtain ⟨h1, h2⟩ := Q2l hr
   have hg := Q1M h1
   have hs := QbA h1
   have hz := Q6z (showF vars) (QgV vars) t
   have ht : toldB (rebT (showF vars) t) = true := by
    unfold toldB
    rw [Qdq vars h2 t hg hp, decide_eq_true (by omega)]; rfl
   have hx := (QaY vars h2 t.size t (Nat.le_refl _) hg hp 0 (by decide)).2
   simp only [cond_true, typeT, ht, hx]
   have hle : ∀ u : Ty, decide (levelT u < 0) = false := fun u => by
    unfold levelT
    cases decide (u.kind = 2) && decide (u.name = [45, 62]) <;> cases decide (u.kind = 2) && decide (u.name = [42]) <;> rfl
   unfold at10 parS
   rw [hle]; rfl
end Go.Am
namespace Go.Am
open Go
theorem Q6m (sep : Str) : ∀ (L : List Str) (f : Bool), (joinS sep L f).length ≤ (L.map (·.length)).sum + L.length * sep.length
 | [], _ => by simp [joinS]
 | s :: r, f => by
   have := Q6m sep r false
   cases f <;> simp [joinS, Nat.add_mul] <;> omega
theorem QeF {n : Int} (h0 : 0 ≤ n) (h : n ≤ 9223372036854775807) : (letT n).length ≤ 22 := by
 unfold letT
 have := Go.Lib.itoa_length_le (n / 26) (by omega) (by omega)
 cases decide (n > 25) <;> simp <;> omega
theorem QdY {nm : Str} (h : ((givenB nm).2.2 || lowB nm) = true) : nm.length ≤ 32 := by
 cases hl : lowB nm with
 | true =>
   unfold lowB runB at hl
   simp only [Bool.and_eq_true, decide_eq_true_eq] at hl
   exact hl.1.2.2
 | false =>
   rw [hl, Bool.or_false] at h
   unfold givenB at h
   by_cases c1 : nm = [105, 110, 116]
   ·subst c1; decide
   by_cases c2 : nm = [98, 111, 111, 108]
   ·subst c2; decide
   by_cases c3 : nm = [117, 110, 105, 116]
   ·subst c3; decide
   by_cases c4 : nm = [101, 120, 110]
   ·subst c4; decide
   by_cases c5 : nm = [114, 101, 102]
   ·subst c5; decide
   by_cases c6 : nm = [45, 62]
   ·subst c6; decide
   by_cases c7 : nm = [42]
   ·subst c7; decide
   rw [decide_eq_false c1, decide_eq_false c2, decide_eq_false c3, decide_eq_false c4, decide_eq_false c5, decide_eq_false c6, decide_eq_false c7] at h
   cases h
theorem Q2h : ∀ (L : List Str) (i : Nat), (L.getD i []).length ≤ (L.map (·.length)).sum
 | [], i => by simp
 | l :: L, 0 => by simp
 | l :: L, i + 1 => by have := Q2h L i; simp at this ⊢; omega
mutual
theorem Q79 (vars : Int) (hv : 0 ≤ vars ∧ vars ≤ 256) : ∀ t : Ty, allTy goodB t = true → VarOK t → (txt10 vars t).length + 12 ≤ 200 * t.size
 | .mk k n nm ags b, hg, hp => by
   simp only [allTy, Bool.and_eq_true] at hg
   unfold VarOK at hp
   simp only [allTy, Bool.and_eq_true] at hp
   simp only [txt10, Ty.size]
   cases hk : decide (k = 1) with
   | true =>
     have hn := Q1R hp.1 hk
     simp only [Bool.and_eq_true, decide_eq_true_eq] at hn
     rw [cond_true]
     cases hd : decide (n < vars) with
     | true =>
       have := QeF hn.1 hn.2
       simp only [cond_true, List.length_cons]; omega
     | false =>
       have hd' := of_decide_eq_false hd
       have := QeF (n := n - vars) (by omega) (by omega)
       simp only [cond_false, List.length_cons]; omega
   | false =>
     obtain ⟨-, -, -, hnm⟩ := Q3G hg.1 hk
     have hs := QdY hnm
     have h0 := Q72 vars hv 0 ags hg.2 hp.2
     have h1 := Q72 vars hv 1 ags hg.2 hp.2
     have h2 := Q72 vars hv 2 ags hg.2 hp.2
     have hc : ∀ lv, (ats10 vars ags lv).length = ags.length := fun lv => by rw [Q65, List.length_map]
     have hsz := Ty.len_sizes ags
     rw [cond_false]
     cases decide (ags.length = 0) with
     | true => simp only [cond_true]; omega
     | false =>
       rw [cond_false]
       cases decide (nm = [45, 62]) with
       | true =>
         have a1 := Q2h (ats10 vars ags 1) 0
         have a2 := Q2h (ats10 vars ags 0) 1
         have a3 := Qj4 vars hv ags hg.2 hp.2
         simp only [cond_true, List.length_append, List.length_cons, List.length_nil]; omega
       | false =>
         rw [cond_false]
         cases decide (nm = [42]) with
         | true =>
           have := Q6m [32, 42, 32] (ats10 vars ags 2) true
           rw [hc, show ([32, 42, 32] : Str).length = 3 from rfl] at this
           simp only [cond_true]; omega
         | false =>
           rw [cond_false]
           cases decide (ags.length = 1) with
           | true =>
             have a1 := Q2h (ats10 vars ags 2) 0
             simp only [cond_true, List.length_append, List.length_cons]; omega
           | false =>
             have := Q6m [44, 32] (ats10 vars ags 0) true
             rw [hc, show ([44, 32] : Str).length = 2 from rfl] at this
             simp only [cond_false, List.length_append, List.length_cons]; omega
theorem Q72 (vars : Int) (hv : 0 ≤ vars ∧ vars ≤ 256) (lv : Int) : ∀ l : List Ty, allTys goodB l = true → allTys (varB fun n => decide (0 ≤ n) && decide (n ≤ 9223372036854775807)) l = true → ((ats10 vars l lv).map (·.length)).sum + 10 * l.length ≤ 200 * Ty.sizes l
 | [], _, _ => by simp [ats10]
 | t :: l, hg, hp => by
   simp only [allTys, Bool.and_eq_true] at hg hp
   have h1 := Q79 vars hv t hg.1 hp.1
   have h2 := Q72 vars hv lv l hg.2 hp.2
   have h3 : (parS (decide (levelT t < lv)) (txt10 vars t)).length ≤ (txt10 vars t).length + 2 := by
    cases decide (levelT t < lv) <;> simp [parS]
   simp only [ats10, List.map_cons, List.sum_cons, List.length_cons, Ty.sizes]
   omega
theorem Qj4 (vars : Int) (hv : 0 ≤ vars ∧ vars ≤ 256) : ∀ l : List Ty, allTys goodB l = true → allTys (varB fun n => decide (0 ≤ n) && decide (n ≤ 9223372036854775807)) l = true → ((ats10 vars l 1).getD 0 []).length + ((ats10 vars l 0).getD 1 []).length ≤ 200 * Ty.sizes l
 | [], _, _ => by simp [ats10]
 | [t], hg, hp => by
   simp only [allTys, Bool.and_eq_true] at hg hp
   have h1 := Q79 vars hv t hg.1 hp.1
   have h3 : (parS (decide (levelT t < 1)) (txt10 vars t)).length ≤ (txt10 vars t).length + 2 := by
    cases decide (levelT t < 1) <;> simp [parS]
   simp [ats10, Ty.sizes]
   omega
 | t :: u :: l, hg, hp => by
   simp only [allTys, Bool.and_eq_true] at hg hp
   have h1 := Q79 vars hv t hg.1 hp.1
   have h2 := Q79 vars hv u hg.2.1 hp.2.1
   have h3 : (parS (decide (levelT t < 1)) (txt10 vars t)).length ≤ (txt10 vars t).length + 2 := by
    cases decide (levelT t < 1) <;> simp [parS]
   have h4 : (parS (decide (levelT u < 0)) (txt10 vars u)).length ≤ (txt10 vars u).length + 2 := by
    cases decide (levelT u < 0) <;> simp [parS]
   simp [ats10, Ty.sizes]
   omega
end
end Go.Am
namespace Go.Am
open Go
mutual
def fewT : Ty → Int → Int → Int
 | .mk _ _ nm l _, left, deep => bif decide (left - 1 - (nm.length / 100 : Nat) < 0) || decide (deep > 130) then -1 else fewTs l (left - 1 - (nm.length / 100 : Nat)) (deep + 1)
def fewTs : List Ty → Int → Int → Int
 | [], left, _ => left
 | t :: l, left, deep => bif decide (fewT t left deep < 0) then -1 else fewTs l (fewT t left deep) deep
end
mutual
theorem Qey : ∀ (t : Ty) (left deep : Int), fewT t left deep ≤ left ∨ fewT t left deep = -1
 | .mk k n nm l b, left, deep => by
   simp only [fewT]
   cases (decide (left - 1 - (nm.length / 100 : Nat) < 0) || decide (deep > 130)) with
   | true => exact .inr rfl
   | false =>
     rcases Qck l (left - 1 - (nm.length / 100 : Nat)) (deep + 1) with h | h
     ·exact .inl (by simp only [cond_false]; omega)
     ·exact .inr h
theorem Qck : ∀ (l : List Ty) (left deep : Int), fewTs l left deep ≤ left ∨ fewTs l left deep = -1
 | [], left, _ => .inl (Int.le_refl _)
 | t :: l, left, deep => by
   simp only [fewTs]
   cases h : decide (fewT t left deep < 0) with
   | true => exact .inr rfl
   | false =>
     have h1 := of_decide_eq_false h
     rcases Qey t left deep with h2 | h2
     ·rcases Qck l (fewT t left deep) deep with h3 | h3
      ·exact .inl (by simp only [cond_false]; omega)
      ·exact .inr h3
     ·omega
end
end Go.Am
namespace Go.Proofs.YtobelgghegmhhaaGreatDoor
open Go Go.Am
set_option linter.unusedVariables false
set_option maxRecDepth 4000
def FewOK (t : Ty) : Prop := ∀ left deep s, -1 ≤ left → left < 2^40 → 0 ≤ deep → deep ≤ 200 → cw (.f Q0F) [t.enc, .int .i64 left, .int .i64 deep] s = some (.ret (.val (.int .i64 (fewT t left deep))), s)
theorem Q8J (t : Ty) (hl : t.args.length < 2^40) (deep : Int) (hd : 0 ≤ deep ∧ deep ≤ 130) (s : St) : ∀ (suf pre : List Ty) (left : Int) (i : Nat), pre ++ suf = t.args → i = pre.length → 0 ≤ left → left < 2^40 → (∀ u ∈ suf, FewOK u) →
  Q0p (.val (.int .i64 left)) (.val (.int .i64 deep)) (t.cells.map .val) (.val (.int .i64 t.args.length)) (.val (.int .i64 i)) s = some (.ret (.val (.int .i64 (fewTs suf left (deep + 1)))), s)
 | [], pre, left, i, h, hi, h0, h1, H => by
   subst hi
   rw [Q3c]; simp only [go_sem, Int.reduceNeg, Qi (by simpa using h), fewTs]
 | u :: suf, pre, left, i, h, hi, h0, h1, H => by
   subst hi
   have c := Ty.cells_eq t
   obtain ⟨f1, f2, f3⟩ := Qe (x := .val (encS t.nl (t.args.map Ty.enc))) (Qb _ _) h (by omega) (Ty.cells_len u) (by decide)
   have w1 : IntKind.i64.wrap (deep + 1) = deep + 1 := wrap64 (by omega) (by omega)
   have e1 := H u List.mem_cons_self left (deep + 1) s (by omega) h1 (by omega) (by omega)
   rw [Q3c]
   simp only [go_sem, Int.reduceNeg, Nat.reduceAdd, Nat.reduceLeDiff, c, f1, f2, f3, w1, e1, fewTs]
   cases hn : decide (fewT u left (deep + 1) < 0) with
   | true => simp only [go_sem, Int.reduceNeg, hn]
   | false =>
     have hn' := of_decide_eq_false hn
     have hle : fewT u left (deep + 1) ≤ left := by rcases Qey u left (deep + 1) with h | h <;> omega
     have ih := Q8J t hl deep hd s suf (pre ++ [u]) (fewT u left (deep + 1)) (pre.length + 1) (by simpa using h) (by simp) (by omega) (by omega) (fun w hw => H w (List.mem_cons_of_mem _ hw))
     simp only [go_sem, Int.reduceNeg, c, hn] at ih ⊢
     exact ih
theorem Q8K : ∀ (k : Nat) (t : Ty), t.size ≤ k → t.size < 2^40 → NamesTy t → FewOK t
 | 0, .mk _ _ _ _ _, h, _, _ => by simp only [Ty.size] at h; omega
 | k + 1, t, h, h', hn => fun left deep s h0 h1 h2 h3 => by
   have hsz : Ty.sizes t.args + 1 = t.size := by cases t; simp only [Ty.size, Ty.args]
   have hl := Ty.len_sizes t.args
   have hnm : t.name.length < 2^40 := by cases t; exact hn.name
   have HV : ∀ u ∈ t.args, FewOK u := fun u hu => by
    cases t with
    | mk kd n nm l nl =>
      have h2 := Ty.mem_sizes hu
      simp only [Ty.args] at hsz hu h2
      exact Q8K k u (by omega) (by omega) (hn.arg hu)
   have c := Ty.cells_eq t
   have a1 : (t.name.length : Int).tdiv 100 = ((t.name.length / 100 : Nat) : Int) := by
    rw [Int.tdiv_eq_ediv_of_nonneg (by omega)]; omega
   have w1 : IntKind.i64.wrap (left - 1) = left - 1 := wrap64 (by omega) (by omega)
   have w0 : IntKind.i64.wrap (((t.name.length / 100 : Nat) : Int)) = ((t.name.length / 100 : Nat) : Int) := wrap64 (by omega) (by omega)
   have w2 : IntKind.i64.wrap (left - 1 - ((t.name.length / 100 : Nat) : Int)) = left - 1 - ((t.name.length / 100 : Nat) : Int) := wrap64 (by omega) (by omega)
   have hT : fewT t left deep = bif decide (left - 1 - (t.name.length / 100 : Nat) < 0) || decide (deep > 130) then -1 else fewTs t.args (left - 1 - (t.name.length / 100 : Nat)) (deep + 1) := by cases t; rfl
   rw [hT, Q9X]
   simp only [go_sem, Int.reduceEq, Int.reduceNeg, Nat.reduceAdd, Nat.reduceLeDiff, ne_eq, not_false_eq_true, c, a1, w0, w1, w2]
   cases hA : decide (left - 1 - ((t.name.length / 100 : Nat) : Int) < 0) with
   | true => simp only [go_sem, Int.reduceNeg, hA]
   | false =>
     cases hB : decide (deep > 130) with
     | true => simp only [go_sem, Int.reduceNeg, hA, hB]
     | false =>
       have hA' := of_decide_eq_false hA
       have hB' := of_decide_eq_false hB
       have e1 := Q8J t (by omega) deep ⟨h2, by omega⟩ s t.args [] (left - 1 - ((t.name.length / 100 : Nat) : Int)) 0 rfl rfl (by omega) (by omega) HV
       rw [show ((0 : Nat) : Int) = 0 from rfl] at e1
       simp only [go_sem, Int.reduceNeg, c, hA, hB] at e1 ⊢
       exact e1
theorem Q8r (t : Ty) (most : Int) (hm : 0 ≤ most ∧ most < 2^40) (s : St) (h : t.size < 2^40) (hn : NamesTy t) : cw (.f Q1G) [t.enc, .int .i64 most] s = some (.ret (.val (.bool (decide (fewT t most 0 ≥ 0)))), s) := by
 have e1 := Q8K t.size t (Nat.le_refl _) h hn most 0 s (by omega) hm.2 (by omega) (by omega)
 have c := Ty.cells_eq t
 rw [Q9W]
 simp only [go_sem, Nat.reduceAdd, Nat.reduceLeDiff, c, Ty.enc] at e1 ⊢
 simp only [go_sem, e1]
end Go.Proofs.YtobelgghegmhhaaGreatDoor
namespace Go.Am
open Go
mutual
theorem QeP (l : List Ty) : ∀ t : Ty, (chTy (toPut l) t ()).1 = rebT (fun n => (toPut l n ()).1) t
 | .mk k n s a b => by
   simp only [chTy, rebT]
   cases decide (k = 1) with
   | true => rfl
   | false => simp only [cond_false, Qd7 l a]
theorem Qd7 (l : List Ty) : ∀ a : List Ty, (chTys (toPut l) a ()).1 = rebTs (fun n => (toPut l n ()).1) a
 | [] => rfl
 | t :: a => by
   simp only [chTys, rebTs, QeP l t]
   rw [show (chTy (toPut l) t ()).2 = () from rfl, Qd7 l a]
end
mutual
theorem QhP : ∀ t : Ty, allTy goodB (ownTy t) = allTy goodB t
 | .mk k n s l b => by
   simp only [ownTy, allTy, Qaz l]
   congr 1
   unfold goodB
   simp only [Ty.kind, Ty.n, Ty.name, Ty.args, Q5t, List.length_map]
theorem Qaz : ∀ l : List Ty, allTys goodB (ownTys l) = allTys goodB l
 | [] => rfl
 | t :: l => by simp only [ownTys, allTys, QhP t, Qaz l]
end
mutual
theorem QhQ {f : Int → Ty} (h : ∀ n, 0 ≤ n → allTy goodB (f n) = true) : ∀ t : Ty, allTy goodB t = true → allTy goodB (rebT f t) = true
 | .mk k n s l b, hg => by
   simp only [allTy, Bool.and_eq_true] at hg
   simp only [rebT]
   cases hk : decide (k = 1) with
   | true => exact h n (Q1Q hg.1 hk).1
   | false =>
     simp only [cond_false, allTy, QaA h l hg.2, Bool.and_true]
     have := hg.1
     unfold goodB at this ⊢
     simp only [Ty.kind, Ty.n, Ty.name, Ty.args, Q6A, List.length_map] at this ⊢
     exact this
theorem QaA {f : Int → Ty} (h : ∀ n, 0 ≤ n → allTy goodB (f n) = true) : ∀ l : List Ty, allTys goodB l = true → allTys goodB (rebTs f l) = true
 | [], _ => rfl
 | t :: l, hg => by
   simp only [allTys, Bool.and_eq_true] at hg
   simp only [rebTs, allTys, QhQ h t hg.1, QaA h l hg.2, Bool.and_self]
end
mutual
theorem Qd3 : ∀ t : Ty, allTy goodB t = true → allTy (varB fun n => decide (0 ≤ n)) t = true
 | .mk k n s l b, hg => by
   simp only [allTy, Bool.and_eq_true] at hg ⊢
   refine ⟨?_, QaO l hg.2⟩
   unfold varB
   rw [show (Ty.mk k n s l b).kind = k from rfl, show (Ty.mk k n s l b).n = n from rfl]
   cases hk : decide (k = 1) with
   | true => simpa using (Q1Q hg.1 hk).1
   | false => rfl
theorem QaO : ∀ l : List Ty, allTys goodB l = true → allTys (varB fun n => decide (0 ≤ n)) l = true
 | [], _ => rfl
 | t :: l, hg => by
   simp only [allTys, Bool.and_eq_true] at hg ⊢
   exact ⟨Qd3 t hg.1, QaO l hg.2⟩
end
mutual
theorem Qg3 {p q : Ty → Bool} : ∀ t : Ty, allTy p t = true → allTy q t = true → allTy (fun t => p t && q t) t = true
 | .mk k n s l b, h, g => by
   simp only [allTy, Bool.and_eq_true] at h g ⊢
   exact ⟨⟨h.1, g.1⟩, Q8x l h.2 g.2⟩
theorem Q8x {p q : Ty → Bool} : ∀ l : List Ty, allTys p l = true → allTys q l = true → allTys (fun t => p t && q t) l = true
 | [], _, _ => rfl
 | t :: l, h, g => by
   simp only [allTys, Bool.and_eq_true] at h g ⊢
   exact ⟨Qg3 t h.1 g.1, Q8x l h.2 g.2⟩
end
mutual
theorem Qjb : ∀ (t : Ty) (old : List Int), (chTy toCanon t old).2.length ≤ old.length + t.size
 | .mk k n s l b, old => by
   simp only [chTy, Ty.size]
   cases decide (k = 1) with
   | true =>
     simp only [cond_true, Q2N]
     split
     ·simp only [List.length_append, List.length_singleton]; omega
     ·omega
   | false =>
     have := Qcc l old
     simp only [cond_false]; omega
theorem Qcc : ∀ (l : List Ty) (old : List Int), (chTys toCanon l old).2.length ≤ old.length + Ty.sizes l
 | [], old => by simp [chTys]
 | t :: l, old => by
   have h1 := Qjb t old
   have h2 := Qcc l (chTy toCanon t old).2
   simp only [chTys, Ty.sizes]; omega
end
end Go.Am
namespace Go.Am
open Go
theorem QgD {t : Ty} : NamesTy t ↔ ∀ u ∈ preTy t, u.name.length < 2^40 := by
 unfold NamesTy
 rw [Q2M]
 constructor
 ·intro h u hu
  exact h _ (List.mem_map.2 ⟨u, hu, rfl⟩)
 ·intro h n hn
  obtain ⟨u, hu, rfl⟩ := List.mem_map.1 hn
  exact h u hu
theorem Q3L {k n : Int} {s : Str} {l : List Ty} {b : Bool} (h : s.length < 2^40) (g : ∀ t ∈ l, NamesTy t) : NamesTy (.mk k n s l b) := by
 intro nd hn
 simp only [nodesTy, List.mem_cons] at hn
 rcases hn with rfl | hn
 ·exact h
 ·have : ∀ (l : List Ty), (∀ t ∈ l, NamesTy t) → ∀ nd ∈ nodesTys 0 l, nd.ok := by
   intro l
   induction l with
   | nil => intro _ nd h; simp [nodesTys] at h
   | cons t l ih =>
     intro h nd hn
     simp only [nodesTys, List.mem_append] at hn
     rcases hn with hn | hn
     ·exact h t List.mem_cons_self nd hn
     ·exact ih (fun t ht => h t (List.mem_cons_of_mem _ ht)) nd hn
  exact this l g nd hn
mutual
theorem QaH {f : Int → Ty} {p : Int → Bool} (h : ∀ n, p n = true → NamesTy (f n)) : ∀ t : Ty, NamesTy t → allTy (varB p) t = true → NamesTy (rebT f t)
 | .mk k n s l b, hn, hp => by
   simp only [allTy, Bool.and_eq_true] at hp
   simp only [rebT]
   cases hk : decide (k = 1) with
   | true => exact h n (Q1R hp.1 hk)
   | false =>
     rw [cond_false]
     exact Q3L hn.name (Q8X h l (fun t ht => hn.arg ht) hp.2)
theorem Q8X {f : Int → Ty} {p : Int → Bool} (h : ∀ n, p n = true → NamesTy (f n)) : ∀ l : List Ty, (∀ t ∈ l, NamesTy t) → allTys (varB p) l = true → ∀ t ∈ rebTs f l, NamesTy t
 | [], _, _, t, ht => by simp [rebTs] at ht
 | u :: l, hn, hp, t, ht => by
   simp only [allTys, Bool.and_eq_true] at hp
   simp only [rebTs, List.mem_cons] at ht
   rcases ht with rfl | ht
   ·exact QaH h u (hn u List.mem_cons_self) hp.1
   ·exact Q8X h l (fun t ht => hn t (List.mem_cons_of_mem _ ht)) hp.2 t ht
end
theorem Qfv (n : Int) : NamesTy (tvar n) := Q3L (by decide) (by simp)
theorem Qe3 {vars n : Int} (hv : 0 ≤ vars ∧ vars ≤ 256) (hn : 0 ≤ n ∧ n ≤ 9223372036854775807) : NamesTy (showF vars n) := by
 unfold showF
 cases hd : decide (n < vars) with
 | true => exact Qfv n
 | false =>
   have hd' := of_decide_eq_false hd
   have := (Qcv (m := n - vars) (by omega) (by omega)).2
   unfold keptN at this
   exact Q3L (by omega) (by simp)
theorem QgL (l : List Ty) (M : Nat) (h : ∀ u ∈ l, u.size ≤ M) (t : Ty) : (putTy t l).size ≤ t.size * (M + 1) := by
 show (chTy (toPut l) t ()).1.size ≤ _
 rw [QeP]
 have h1 : ∀ n, ((toPut l n ()).1).size ≤ M + 1 := fun n => by
  simp only [toPut]
  split
  ·rename_i hn
   rw [Q5s]
   have := Qay h n.toNat (by omega)
   omega
  ·show 1 ≤ _; omega
 have both : ∀ k : Nat, ∀ t : Ty, t.size ≤ k → (rebT (fun n => (toPut l n ()).1) t).size ≤ t.size * (M + 1) := by
  intro k
  induction k with
  | zero => intro t h; have := Ty.size_pos t; omega
  | succ k ih =>
    intro t h
    cases t with
    | mk kd n s a b =>
      simp only [Ty.size] at h
      simp only [rebT, Ty.size, Nat.add_mul]
      cases decide (kd = 1) with
      | true => have := h1 n; simp only [cond_true]; omega
      | false =>
        have hl : ∀ a : List Ty, Ty.sizes a ≤ k → Ty.sizes (rebTs (fun n => (toPut l n ()).1) a) ≤ Ty.sizes a * (M + 1) := by
         intro a
         induction a with
         | nil => intro _; simp [rebTs, Ty.sizes]
         | cons u a iha =>
           intro hk
           simp only [Ty.sizes] at hk
           have a1 := ih u (by omega)
           have a2 := iha (by omega)
           simp only [rebTs, Ty.sizes, Nat.add_mul]; omega
        have := hl a (by omega)
        simp only [cond_false, Ty.size]; omega
 exact both t.size t (Nat.le_refl _)
def fewL (x : Sch) (l : List Ty) : Bool := l.all (fun t => decide (fewT t 300 0 ≥ 0)) && (decide ((l.length : Int) < 300) && decide (fewT x.ty 400 0 ≥ 0))
def fnK (a b : Ty) : Ty := .mk 2 0 [45, 62] [a, b] false
def kOf : Ty := fnK (tvar 3) (fnK (tvar 5) (tvar 3))
def kShow : Ty := rebT (numF [3, 5]) kOf
def kA : Sch := ⟨2, fnK (tvar 0) (tvar 1)⟩
def kB : Sch := ⟨1, fnK (tvar 0) (tvar 0)⟩
def kInt10 : Ty := .mk 2 0 [105, 110, 116] [] true
theorem Qgt : rightTyB kOf = true := by decide +kernel
theorem Qlu : ofP kOf [5] = (1, kShow) := by
 unfold ofP
 rw [Qgt]
 rfl
theorem Qfp : schemeT 1 kShow = [39, 97, 32, 45, 62, 32, 95, 97, 32, 45, 62, 32, 39, 97] := by
 rw [Qih 1 kShow (fun _ => by unfold VarOK; decide +kernel)]
 decide +kernel
theorem kMore1 : moreP 2 kA.ty 1 kB.ty = true := by decide +kernel
theorem kMore2 : moreP 1 kB.ty 2 kA.ty = false := by decide +kernel
theorem kInst1 : (instT 1 kB.ty [kInt10]).2 = 0 := by decide +kernel
theorem kInst2 : eqTy (instT 1 kB.ty [kInt10]).1 (fnK kInt10 kInt10) = true := by decide +kernel
def schB (x : Sch) : Bool := decide (x.ty.size < 2^28) && (((preTy x.ty).all fun u => decide (u.name.length < 2^40)) && allTy numB x.ty)
theorem Q4X {x : Sch} (h : schB x = true) : SchOK x := by
 simp only [schB, Bool.and_eq_true, decide_eq_true_eq, List.all_eq_true] at h
 exact ⟨h.1, QgD.2 h.2.1, h.2.2⟩
end Go.Am
namespace Go.Proofs.YtobelgghegmhhaaGreatDoor
open Go Go.Am
set_option linter.unusedVariables false
set_option maxRecDepth 4000
theorem Qjz (x : Sch) (h : SchOK x) (s : St) : Ret (cw (.f Q1K) [x.enc] s) s (.str (schemeT x.vars x.ty)) := by
 obtain ⟨vars, t⟩ := x
 cases hr : rightSB vars t with
 | false =>
   obtain ⟨s1, e1, g1⟩ := ZA vars t s (by have := h.size; simp only at this; omega) h.names
   have c := Ty.cells_eq t
   change cw _ _ _ = some (.ret (.val (.bool (rightSB vars t))), s1) at e1
   rw [Q4Y]
   unfold schemeT
   rw [hr] at e1 ⊢
   simp only [go_sem, Nat.reduceAdd, Nat.reduceLeDiff, Sch.enc, Sch.cells, c] at e1 ⊢
   simp only [go_sem, e1]
   exact ⟨s1, rfl, g1⟩
 | true =>
   have r := Q2l hr
   have hv := h.var r.1
   exact Q8g vars t s h.size h.names (Z6 t h.size) (QaH (p := fun n => decide (0 ≤ n) && decide (n ≤ 9223372036854775807)) (fun n hn => Qe3 r.2 (by simpa using hn)) t h.names hv) hv
theorem QhL {l : List AV} {off sz : Nat} {m : List AV} (h : sz = 1) (k : off + 1 ≤ l.length) (r : List (Nat × Nat × Slot)) : fillS l ((off, sz, .full m) :: r) = fillS (l.take off ++ ([.sl m] ++ l.drop (off + 1))) r := by
 subst h
 exact Qfg (x := .full m) (v := .sl m) rfl rfl rfl k r
theorem Q2i (n : Int) (s : St) : cw (.f ZU) [.int .i64 n] s = some (.ret (.val (tvar n).enc), s) := by
 rw [Qfr]
 simp only [go_sem, Nat.reduceAdd, Nat.reduceLeDiff, tvar, Ty.enc]
theorem Q0G (a b : Ty) (s : St) : cw (.f Q0w) [a.enc, b.enc] s = some (.ret (.val (fnK a b).enc), s) := by
 have ca := Ty.cells_eq a
 have cb := Ty.cells_eq b
 rw [QdZ]
 simp only [go_sem, Nat.reduceAdd, Nat.reduceLeDiff, fnK, Ty.enc, ca, cb, QhL]
theorem Q4Q (x : Sch) (l : List Ty) (y : Slot) (hy : y.list? = some (l.map Ty.enc)) (hl : l.length < 2^40) (hs : ∀ t ∈ l, t.size < 2^40 ∧ NamesTy t) (hx : x.ty.size < 2^40 ∧ NamesTy x.ty) (s : St) : ∀ (suf pre : List Ty) (i : Nat), pre ++ suf = l → i = pre.length →
  Q18 y (x.cells.map .val) (.val (.int .i64 l.length)) (.val (.int .i64 i)) s = some (.ret (.val (.bool (suf.all (fun t => decide (fewT t 300 0 ≥ 0)) && (decide ((l.length : Int) < 300) && decide (fewT x.ty 400 0 ≥ 0))))), s)
 | [], pre, i, h, hi => by
   subst hi
   have c := Ty.cells_eq x.ty
   have e1 := Q8r x.ty 400 (by decide) s hx.1 hx.2
   rw [Q4c]
   simp only [Ty.enc, c] at e1
   cases hd : decide ((l.length : Int) < 300) with
   | true => simp only [go_sem, Nat.reduceAdd, Nat.reduceLeDiff, Sch.cells, c, Qi (by simpa using h), hy, List.length_map, hd, e1, List.all_nil]
   | false => simp only [go_sem, Nat.reduceAdd, Nat.reduceLeDiff, Sch.cells, c, Qi (by simpa using h), hy, List.length_map, hd, List.all_nil]
 | t :: suf, pre, i, h, hi => by
   subst hi
   obtain ⟨f1, f2, f3⟩ := Qe hy h (by omega) (Ty.cells_len t) (by decide)
   have ht := hs t (by rw [← h]; simp)
   have e1 := Q8r t 300 (by decide) s ht.1 ht.2
   rw [Q4c, List.all_cons]
   cases hd : decide (fewT t 300 0 ≥ 0) with
   | false =>
     rw [hd] at e1
     simp only [go_sem, Nat.reduceLeDiff, f1, f2, f3, e1]
   | true =>
     rw [hd] at e1
     have ih := Q4Q x l y hy hl hs hx s suf (pre ++ [t]) (pre.length + 1) (by simpa using h) (by simp)
     simp only [go_sem, Nat.reduceLeDiff, f1, f2, f3, e1] at ih ⊢
     exact ih
theorem Q9O (x : Sch) (l : List Ty) (v : AV) (hv : (Slot.val v).list? = some (l.map Ty.enc)) (hl : l.length < 2^40) (hs : ∀ t ∈ l, t.size < 2^40 ∧ NamesTy t) (hx : SchOK x) (s : St) : cw (.f Q2I) [x.enc, v] s = some (.ret (.val (.bool (fewL x l))), s) := by
 have e1 := Q4Q x l (.val v) hv hl hs ⟨by have := hx.size; omega, hx.names⟩ s l [] 0 rfl rfl
 rw [show ((0 : Nat) : Int) = 0 from rfl] at e1
 have c := Ty.cells_eq x.ty
 rw [Qcw]
 simp only [go_sem, Nat.reduceAdd, Sch.enc, Sch.cells, c, hv, List.length_map] at e1 ⊢
 exact e1
theorem Q3J (s : St) : Ret (cw (.f Q1E) [] s) s (.bool true) := by
 have v3 := fun s => Q2i 3 s
 have v5 := fun s => Q2i 5 s
 have v0 := fun s => Q2i 0 s
 have v1 := fun s => Q2i 1 s
 have f1 := fun s => Q0G (tvar 5) (tvar 3) s
 have f2 := fun s => Q0G (tvar 3) (fnK (tvar 5) (tvar 3)) s
 have f3 := fun s => Q0G (tvar 0) (tvar 1) s
 have f4 := fun s => Q0G (tvar 0) (tvar 0) s
 have f5 := fun s => Q0G kInt10 kInt10 s
 have okOf : SchOK ⟨0, kOf⟩ := Q4X (by decide +kernel)
 have okShow : SchOK ⟨1, kShow⟩ := Q4X (by decide +kernel)
 have okA : SchOK kA := Q4X (by decide +kernel)
 have okB : SchOK kB := Q4X (by decide +kernel)
 have okI : SchOK ⟨0, kInt10⟩ := Q4X (by decide +kernel)
 obtain ⟨s1, e1, g1⟩ := Qa4 kOf [5] (.sl [.int .i64 5]) rfl (by decide) s okOf.size okOf.names
 rw [Qlu] at e1
 obtain ⟨s2, e2, g2⟩ := Q3T 1 kB.ty [kInt10] false s1 okB.size okB.names (Z6 _ okB.size) (by decide) (by
  intro u hu
  rw [List.mem_singleton.1 hu]
  exact ⟨by decide +kernel, okI.names, Z6 _ okI.size⟩) (by decide +kernel)
 obtain ⟨s3, e3, g3⟩ := Qjz ⟨1, kShow⟩ okShow s2
 obtain ⟨s4, e4, g4⟩ := Q3U kA kB okA okB s3
 obtain ⟨s5, e5, g5⟩ := Q3U kB kA okB okA s4
 have e6 := Q4i (instT 1 kB.ty [kInt10]).1 (fnK kInt10 kInt10) s5 (by decide +kernel)
 rw [kInst2] at e6
 rw [kInst1] at e2
 rw [show schemeT (Sch.mk 1 kShow).vars (Sch.mk 1 kShow).ty = _ from Qfp] at e3
 rw [show moreP kA.vars kA.ty kB.vars kB.ty = true from kMore1] at e4
 rw [show moreP kB.vars kB.ty kA.vars kA.ty = false from kMore2] at e5
 have cI := Ty.cells_eq (instT 1 kB.ty [kInt10]).1
 have cS := Ty.cells_eq kShow
 generalize hI : (instT 1 kB.ty [kInt10]).1 = I at *
 generalize hS : kShow = S at *
 simp only [kOf, kA, kB, kInt10, fnK, tvar, Sch.enc, Sch.cells, Ty.enc, Ty.cells_mk, List.map_cons, List.map_nil, Q8H, QhI, cI, cS] at v3 v5 v0 v1 f1 f2 f3 f4 f5 e1 e2 e3 e4 e5 e6
 refine ⟨s5, ?_, (((g1.trans g2).trans g3).trans g4).trans g5⟩
 rw [Q9P]
 simp only [go_sem, Nat.reduceAdd, Nat.reduceLeDiff, v3, v5, v0, v1, f1, f2, f3, f4, f5, e1, e2, e3, e4, e5, e6]
end Go.Proofs.YtobelgghegmhhaaGreatDoor