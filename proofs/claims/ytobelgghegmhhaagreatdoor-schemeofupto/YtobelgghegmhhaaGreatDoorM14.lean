/- A part of the proof: SSch6, SSch7, SRef10, SRef01, PShow2, PShow3, PShow4, SRef10d. -/
import Derived.Test.YtobelgghegmhhaaGreatDoorM8
import Derived.Test.YtobelgghegmhhaaGreatDoorM11
import Derived.Test.YtobelgghegmhhaaGreatDoorM12
import Derived.Test.YtobelgghegmhhaaGreatDoorM13
import Derived.Lib.ItoaMem
import Derived.Lib.Bytealg
set_option linter.unusedVariables false
set_option linter.unusedSimpArgs false
namespace Go.Proofs.YtobelgghegmhhaaGreatDoor
open Go Go.Am
set_option linter.unusedVariables false
set_option maxRecDepth 4000
def encP (p : Ty × Ty) : AV := .agg (p.1.cells ++ p.2.cells)
theorem Q5W (p : Ty × Ty) : (encP p).cells = p.1.cells ++ p.2.cells := rfl
theorem Q8G (p : Ty × Ty) : (encP p).cells.length = 8 := by rw [Q5W, List.length_append, Ty.cells_len, Ty.cells_len]
def flatP (l : List (Ty × Ty)) : List AV := flatL (l.map encP)
theorem Q6X (l : List (Ty × Ty)) : (flatP l).length = l.length * 8 := by
 have := Q6W (sz := 8) (l := l.map encP) (fun v hv => by obtain ⟨p, _, rfl⟩ := List.mem_map.1 hv; exact Q8G p)
 simpa [flatP] using this
theorem Q5X (l : List (Ty × Ty)) (p : Ty × Ty) : flatP (l ++ [p]) = flatP l ++ (p.1.cells ++ p.2.cells) := by
 unfold flatP
 rw [List.map_append, Qho]
 simp [flatL, Q5W]
def Stk (s : St) (loc : Nat) (l : List (Ty × Ty)) : Prop := ∃ rest : List Slot, s.locs[loc]? = some (.var ((flatP l).map .val ++ rest))
theorem Stk.lt {s : St} {loc : Nat} {l : List (Ty × Ty)} (h : Stk s loc l) : loc < s.locs.length := by
 obtain ⟨r, h⟩ := h
 exact (List.getElem?_eq_some_iff.1 h).1
theorem Stk.move {s s' : St} {loc : Nat} {l : List (Ty × Ty)} (h : Stk s loc l) (g : ∀ o, s.locs[loc]? = some o → s'.locs[loc]? = some o) : Stk s' loc l := by
 obtain ⟨r, h⟩ := h
 exact ⟨r, g _ h⟩
theorem Stk.pop {s : St} {loc : Nat} {l : List (Ty × Ty)} {p : Ty × Ty} (h : Stk s loc (l ++ [p])) : Stk s loc l := by
 obtain ⟨r, h⟩ := h
 rw [Q5X, List.map_append, List.append_assoc] at h
 exact ⟨_, h⟩
theorem Stk.top {s : St} {loc : Nat} {l : List (Ty × Ty)} {p : Ty × Ty} (h : Stk s loc (l ++ [p])) : ldV (C.ti Qt) false s (.val (.vp loc (l.length * 8))) = some (.val (.agg (p.1.cells ++ p.2.cells))) := by
 obtain ⟨r, h⟩ := h
 rw [Q5X, List.map_append, List.append_assoc] at h
 rw [Zb h, List.drop_left' (by rw [List.length_map, Q6X]), Q16, List.take_left' (by rw [List.length_map, List.length_append, Ty.cells_len, Ty.cells_len])]
 exact Qf6 Qg2 (by rw [Q16, List.length_append, Ty.cells_len, Ty.cells_len])
theorem Stk.push {s : St} {loc : Nat} {l : List (Ty × Ty)} (h : Stk s loc l) (p : Ty × Ty) (hb : l.length < 2^30) {y : Slot} (hy : y.list? = some [encP p]) :
  ∃ s', appendV Qt (C.ti Qt) s (.val (.vs loc Qt 8 0 l.length)) y = some (.val (.vs s.locs.length Qt 8 0 (l.length + 1)), s') ∧ Stk s' s.locs.length (l ++ [p]) ∧ (∀ s0, Grew s0 s → s0.locs.length ≤ loc → Grew s0 s') ∧ (∀ (j : Nat) (o : Am.Obj), j ≠ loc → s.locs[j]? = some o → s'.locs[j]? = some o) := by
 have hl := h.lt
 obtain ⟨r, h⟩ := h
 refine ⟨{ s with locs := s.locs.set loc .dead ++ [.var ((flatP l).map .val ++ (flatL [encP p]).map .val)] }, ?_, ⟨[], ?_⟩, fun s0 g hb => (Q70 g hb .dead).addLoc _, fun j o hj ho => ?_⟩
 ·unfold appendV
  rw [hy]
  simp only [Q19 (l := [encP p]) (sz := (C.ti Qt).size) (by intro v hv; rw [List.mem_singleton.1 hv, Q16]; exact Q8G p) (by rw [Q16]; decide), cond_true, h]
  rw [if_pos ⟨trivial, by rw [List.length_append, List.length_map, Q6X]; omega, by rw [Q6G, List.length_singleton]; omega, by rw [List.length_singleton]; omega⟩, List.take_left' (by rw [List.length_map, Q6X])]
  rfl
 ·simp only []
  rw [List.getElem?_append_right (by rw [List.length_set]; exact Nat.le_refl _), List.length_set, Nat.sub_self, Q5X]
  simp [flatL, Q5W]
 ·have hj2 := (List.getElem?_eq_some_iff.1 ho).1
  simp only []
  rw [List.getElem?_append_left (by rw [List.length_set]; exact hj2), List.getElem?_set_ne (Ne.symm hj)]; exact ho
theorem Qi4 (loc n : Nat) : sliceS (C.ti Q0k) 8 (.val (.vs loc Qt 8 0 (n + 1))) none (some (.val (.int .i64 n))) none = some (.val (.vs loc Qt 8 0 n)) := by
 have hb : bound (some (.val (.int .i64 (n : Int)))) (n + 1) (n + 1) = some n := Qhb (by omega)
 simp only [sliceS, QfZ, QdM, sliceV, hb]
 rfl
def MapTI (s : St) (M : Nat) (g : Int → Option Ty) : Prop := ∃ es c D, s.locs[M]? = some (.map es c) ∧ MapIs ekI Ty.enc g es c D
theorem MapTI.move {s s' : St} {M : Nat} {g : Int → Option Ty} (h : MapTI s M g) (k : ∀ o, s.locs[M]? = some o → s'.locs[M]? = some o) : MapTI s' M g := by
 obtain ⟨es, c, D, h1, h2⟩ := h
 exact ⟨es, c, D, k _ h1, h2⟩
theorem MapTI.get {s : St} {M : Nat} {g : Int → Option Ty} (h : MapTI s M g) (n : Int) : lookupS (C.ti Q1) (C.ti Q3) s (.val (.mp M)) (.val (.int .i64 n)) true = some (.val (.tup [((g n).getD zeroTy).enc, .bool (g n).isSome])) := by
 obtain ⟨es, c, D, h1, h2⟩ := h
 have := Q59 h2 keyInt n (kt := C.ti Q1) (et := C.ti Q3) (Q2h Q15 n) h1 (z := zeroTy.enc) (Qin Qh3 Qd2 Qh5 (by rw [Q4C]; rfl)) true
 simp only [ekI] at this
 rw [this]
 cases g n <;> rfl
theorem MapTI.set {s : St} {M : Nat} {g : Int → Option Ty} (h : MapTI s M g) (n : Int) (v : Ty) :
  ∃ es c, updateS (C.ti Q1) (C.ti Q3) s (.val (.mp M)) (.val (.int .i64 n)) (.val v.enc) = some (.no, { s with locs := s.locs.set M (.map es c) }) ∧ MapTI { s with locs := s.locs.set M (.map es c) } M (upd g n v) := by
 obtain ⟨es, c, D, h1, h2⟩ := h
 obtain ⟨es', c', D', e1, e2⟩ := Q8B h2 keyInt (kt := C.ti Q1) (et := C.ti Q3) n (Q2h Q15 n) h1 (x := .val v.enc) (v := v) rfl (by rw [Q4C]; exact Ty.cells_len v)
 exact ⟨es', c', e1, es', c', D', Q5B h1, e2⟩
theorem QbE (X2 X3 : List Slot) (M : Nat) (x y : Ty) (hxy : x.args.length = y.args.length) (hxl : x.args.length < 2^28) (s0 : St) (hb : s0.locs.length ≤ M) (g : Int → Option Ty) : ∀ (suf suf' pre pre' : List Ty) (l : List (Ty × Ty)) (loc : Nat) (s : St) (i : Nat), pre ++ suf = x.args → pre' ++ suf' = y.args → i = pre.length → pre'.length = pre.length → l.length + suf.length < 2^30 → Stk s loc l → MapTI s M g → M < loc → Grew s0 s →
  ∃ s' loc', Q0D X2 X3 (.val (.mp M)) (.val (.vs loc Qt 8 0 l.length)) ((x.cells ++ y.cells).map .val) (.val (.int .i64 x.args.length)) (.val (.int .i64 i)) s = QU X2 X3 (.val (.mp M)) (.val (.vs loc' Qt 8 0 (l ++ suf.zip suf').length)) s' ∧ Stk s' loc' (l ++ suf.zip suf') ∧ MapTI s' M g ∧ M < loc' ∧ Grew s0 s'
 | [], suf', pre, pre', l, loc, s, i, h, h', hi, hp, hl, hS, hM, hlt, G => by
   subst hi
   refine ⟨s, loc, ?_, by simpa using hS, hM, hlt, G⟩
   rw [Q3K]
   simp only [go_sem, Nat.reduceLeDiff, Nat.reduceSub, Qf (by simpa using h), List.zip_nil_left, List.append_nil]
 | t :: suf, [], pre, pre', l, loc, s, i, h, h', hi, hp, hl, hS, hM, hlt, G => by
   have h1 := congrArg List.length h
   have h2 := congrArg List.length h'
   simp only [List.length_append, List.length_nil, List.length_cons] at h1 h2
   omega
 | t :: suf, u :: suf', pre, pre', l, loc, s, i, h, h', hi, hp, hl, hS, hM, hlt, G => by
   subst hi
   simp only [List.length_cons] at hl
   have cx := Ty.cells_eq x
   have cy := Ty.cells_eq y
   obtain ⟨f1, f2, f3⟩ := Qc (x := .val (encS x.nl (x.args.map Ty.enc))) (Qa _ _) h (by omega) (Ty.cells_len t) (by decide)
   obtain ⟨-, f5, -⟩ := Qc (x := .val (encS y.nl (y.args.map Ty.enc))) (Qa _ _) h' (by omega) (Ty.cells_len u) (by decide)
   rw [hp] at f5
   have ct := Ty.cells_eq t
   have cu := Ty.cells_eq u
   obtain ⟨s1, e1, S1, G1, K1⟩ := hS.push (t, u) (by omega) (y := .full [encP (t, u)]) rfl
   obtain ⟨s2, loc2, e2, S2, M2, L2, G2⟩ := QbE X2 X3 M x y hxy hxl s0 hb g suf suf' (pre ++ [t]) (pre' ++ [u]) (l ++ [(t, u)]) s.locs.length s1 (pre.length + 1) (by simpa using h) (by simpa using h') (by simp) (by simp [hp]) (by simp; omega) S1 (hM.move fun o => K1 M o (by omega)) (by have := hS.lt; omega) (G1 s0 G (by omega))
   refine ⟨s2, loc2, ?_, by simpa using S2, M2, L2, G2⟩
   rw [Q3K]
   simp only [List.length_append, List.length_singleton, List.append_assoc, List.singleton_append, cx, cy, List.map_cons, List.map_nil, List.cons_append, List.nil_append] at e2 ⊢
   simp only [encP, ct, cu, List.cons_append, List.nil_append] at e1
   simp only [go_sem, Nat.reduceAdd, Nat.reduceLeDiff, f1, f2, f3, f5, ct, cu, e1, List.zip_cons_cons, List.length_cons]
   exact e2
structure PairOK (p : Ty × Ty) : Prop where
 vx : allTy (varB fun n => decide (0 ≤ n) && decide (n ≤ 9223372036854775807)) p.1 = true
 vy : allTy (varB fun n => decide (0 ≤ n) && decide (n ≤ 9223372036854775807)) p.2 = true
 sx : p.1.size < 2^28
 sy : p.2.size < 2^28
theorem PairOK.var {t : Ty} (h : allTy (varB fun n => decide (0 ≤ n) && decide (n ≤ 9223372036854775807)) t = true) (hk : decide (t.kind = 1) = true) : 0 ≤ t.n ∧ t.n ≤ 9223372036854775807 := by
 cases t with
 | mk k n s l b =>
   simp only [allTy, Bool.and_eq_true] at h
   have := Q1x h.1 hk
   simp only [Bool.and_eq_true, decide_eq_true_eq] at this
   exact this
theorem PairOK.kids {p : Ty × Ty} (h : PairOK p) : ∀ q ∈ p.1.args.zip p.2.args, PairOK q := by
 intro q hq
 have hm := List.of_mem_zip (a := q.1) (b := q.2) hq
 obtain ⟨⟨kx, nx, sx, lx, bx⟩, ⟨ky, ny, sy, ly, by'⟩⟩ := p
 obtain ⟨h1, h2, h3, h4⟩ := h
 simp only [Ty.args] at hm
 simp only [allTy, Bool.and_eq_true] at h1 h2
 simp only [Ty.size] at h3 h4
 have a1 := Ty.mem_sizes hm.1
 have a2 := Ty.mem_sizes hm.2
 exact ⟨Q1o h1.2 _ hm.1, Q1o h2.2 _ hm.2, by omega, by omega⟩
theorem QhF (av bv : Int) (k : Nat) (x y : Ty) (st : List (Ty × Ty)) (g : Int → Option Ty) : moreF av bv (k + 1) ((x, y) :: st) g =
  bif decide (x.kind = 1) then
   (bif decide (x.n < av) then (match g x.n with
     | some was => bif eqTy was y then moreF av bv k st g else false
     | none => moreF av bv k st (upd g x.n y))
   else bif !decide (y.kind = 1) || (decide (y.n < bv) || !decide (y.n - bv = x.n - av)) then false else moreF av bv k st g)
  else bif !decide (y.kind = 2) || (!decide (x.name = y.name) || !decide (x.args.length = y.args.length)) then false else moreF av bv k ((x.args.zip y.args).reverse ++ st) g := rfl
theorem Q78 (av bv : Int) (t u : Ty) (ha : 0 ≤ av ∧ av ≤ 256) (hb : 0 ≤ bv ∧ bv ≤ 256) (M : Nat) (s0 : St) (hM0 : s0.locs.length ≤ M) : ∀ (k : Nat) (st : List (Ty × Ty)) (g : Int → Option Ty) (loc : Nat) (s : St), k < 2^28 → sumX st ≤ k → (∀ p ∈ st, PairOK p) → (∀ n w, g n = some w → w.size < 2^28) → Stk s loc st.reverse → MapTI s M g → M < loc → Grew s0 s →
  Ret (QU ((AV.int .i64 av :: t.cells).map .val) ((AV.int .i64 bv :: u.cells).map .val) (.val (.mp M)) (.val (.vs loc Qt 8 0 st.length)) s) s0 (.bool (moreF av bv k st g))
 | k, [], g, loc, s, hk, hs, hp, hg, hS, hM, hlt, G => by
   have z : decide (((0 : Nat) : Int) > 0) = false := rfl
   have : moreF av bv k [] g = true := by cases k <;> rfl
   rw [Q3J, this]
   simp only [go_sem, List.length_nil, z]
   exact ⟨s, rfl, G⟩
 | 0, (x, y) :: st, g, loc, s, hk, hs, _, _, _, _, _, _ => by
   have := Ty.size_pos x
   rw [Q4Y] at hs
   simp only at hs
   omega
 | k + 1, (x, y) :: st, g, loc, s, hk, hs, hp, hg, hS, hM, hlt, G => by
   rw [Q4Y] at hs
   simp only at hs
   have hsz : Ty.sizes x.args + 1 = x.size := by cases x; simp only [Ty.size, Ty.args]
   have hal := Ty.len_sizes x.args
   have hpos := Ty.size_pos x
   have hst : st.length ≤ sumX st := by
    clear hs hp hS
    induction st with
    | nil => simp
    | cons q st ih =>
      have := Ty.size_pos q.1
      rw [Q4Y, List.length_cons]; omega
   have P := hp _ List.mem_cons_self
   have hps := fun p h => hp p (List.mem_cons_of_mem _ h)
   have cx := Ty.cells_eq x
   have cy := Ty.cells_eq y
   have ct := Ty.cells_eq t
   have cu := Ty.cells_eq u
   rw [List.reverse_cons] at hS
   have hT := hS.top
   have hS' := hS.pop
   rw [List.length_reverse] at hT
   have z : decide (((st.length + 1 : Nat) : Int) > 0) = true := decide_eq_true (by omega)
   have w1 : IntKind.i64.wrap (((st.length + 1 : Nat) : Int) - 1) = (st.length : Int) := by rw [wrap64 (by omega) (by omega)]; omega
   have f1 : ixS 8 (.val (.vs loc Qt 8 0 (st.length + 1))) (.val (.int .i64 (st.length : Int))) = some (.val (.vp loc (st.length * 8))) := by
    rw [Qmw (by omega) (by decide), Nat.zero_add]
   have f2 := Qi4 loc st.length
   have ih := fun g' s' (a : ∀ n w, g' n = some w → w.size < 2^28) (b : Stk s' loc st.reverse) (c : MapTI s' M g') (d : Grew s0 s') => Q78 av bv t u ha hb M s0 hM0 k st g' loc s' (by omega) (by omega) hps a b c hlt d
   rw [Q3J, QhF]
   cases hkx : decide (x.kind = 1) with
   | true =>
     have hx : 0 ≤ x.n ∧ x.n ≤ 9223372036854775807 := PairOK.var P.vx hkx
     cases hn : decide (x.n < av) with
     | true =>
       have hget := hM.get x.n
       cases hgx : g x.n with
       | some was =>
         have e1 := Qev was (ZU was (hg _ _ hgx)) y s
         have cw' := Ty.cells_eq was
         rw [hgx] at hget
         cases he : eqTy was y with
         | true =>
           have i := ih g s hg hS' hM G
           rw [he] at e1
           simp only [Option.getD_some, Option.isSome_some, Ty.enc, cw', cx, cy, ct, cu, List.map_cons, List.map_nil, List.cons_append, List.nil_append] at hT e1 hget i ⊢
           simp only [go_sem, Nat.reduceAdd, Nat.reduceLeDiff, List.length_cons, z, w1, f1, f2, hT, hkx, hn, hget, e1, he, cond_true, cond_false]
           exact i
         | false =>
           rw [he] at e1
           simp only [Option.getD_some, Option.isSome_some, Ty.enc, cw', cx, cy, ct, cu, List.map_cons, List.map_nil, List.cons_append, List.nil_append] at hT e1 hget ⊢
           simp only [go_sem, Nat.reduceAdd, Nat.reduceLeDiff, List.length_cons, z, w1, f1, f2, hT, hkx, hn, hget, e1, he, cond_true, cond_false]
           exact ⟨s, rfl, G⟩
       | none =>
         rw [hgx] at hget
         obtain ⟨es, c, eu, hM'⟩ := hM.set x.n y
         have i := ih (upd g x.n y) { s with locs := s.locs.set M (.map es c) } (fun n w h => by
          unfold upd at h
          split at h
          ·cases h; exact P.sy
          ·exact hg n w h) (hS'.move fun o ho => by
           show (s.locs.set M _)[loc]? = _
           rw [List.getElem?_set_ne (by omega)]; exact ho) hM' (Q70 G hM0 _)
         simp only [Option.getD_none, Option.isSome_none, Ty.enc, zeroTy, Ty.cells_mk, cx, cy, ct, cu, List.map_cons, List.map_nil, List.cons_append, List.nil_append] at hT eu hget i ⊢
         simp only [go_sem, Nat.reduceAdd, Nat.reduceLeDiff, List.length_cons, z, w1, f1, f2, hT, hkx, hn, hget, eu, cond_true]
         exact i
     | false =>
       have hn' := of_decide_eq_false hn
       have hk1 : decide (x.kind = 1) = true := hkx
       have i := ih g s hg hS' hM G
       have w2 : IntKind.i64.wrap (x.n - av) = x.n - av := wrap64 (by omega) (by omega)
       cases hky : decide (y.kind = 1) with
       | false =>
         simp only [cx, cy, ct, cu, List.map_cons, List.map_nil, List.cons_append, List.nil_append] at hT ⊢
         simp only [go_sem, Nat.reduceAdd, Nat.reduceLeDiff, List.length_cons, z, w1, f1, f2, hT, hkx, hn, hky, cond_true, cond_false]
         exact ⟨s, rfl, G⟩
       | true =>
         have hy : 0 ≤ y.n ∧ y.n ≤ 9223372036854775807 := PairOK.var P.vy hky
         cases hm : decide (y.n < bv) with
         | true =>
           simp only [cx, cy, ct, cu, List.map_cons, List.map_nil, List.cons_append, List.nil_append] at hT ⊢
           simp only [go_sem, Nat.reduceAdd, Nat.reduceLeDiff, List.length_cons, z, w1, f1, f2, hT, hkx, hn, hky, hm, cond_true, cond_false]
           exact ⟨s, rfl, G⟩
         | false =>
           have hm' := of_decide_eq_false hm
           have w3 : IntKind.i64.wrap (y.n - bv) = y.n - bv := wrap64 (by omega) (by omega)
           cases hd : decide (y.n - bv = x.n - av) with
           | true =>
             simp only [cx, cy, ct, cu, List.map_cons, List.map_nil, List.cons_append, List.nil_append] at hT i ⊢
             simp only [go_sem, Nat.reduceAdd, Nat.reduceLeDiff, List.length_cons, z, w1, w2, w3, f1, f2, hT, hkx, hn, hky, hm, hd, cond_true, cond_false]
             exact i
           | false =>
             simp only [cx, cy, ct, cu, List.map_cons, List.map_nil, List.cons_append, List.nil_append] at hT ⊢
             simp only [go_sem, Nat.reduceAdd, Nat.reduceLeDiff, List.length_cons, z, w1, w2, w3, f1, f2, hT, hkx, hn, hky, hm, hd, cond_true, cond_false]
             exact ⟨s, rfl, G⟩
   | false =>
     cases hky : decide (y.kind = 2) with
     | false =>
       simp only [cx, cy, ct, cu, List.map_cons, List.map_nil, List.cons_append, List.nil_append] at hT ⊢
       simp only [go_sem, Nat.reduceAdd, Nat.reduceLeDiff, List.length_cons, z, w1, f1, f2, hT, hkx, hky, cond_true, cond_false]
       exact ⟨s, rfl, G⟩
     | true =>
       cases hnm : decide (x.name = y.name) with
       | false =>
         simp only [cx, cy, ct, cu, List.map_cons, List.map_nil, List.cons_append, List.nil_append] at hT ⊢
         simp only [go_sem, Nat.reduceAdd, Nat.reduceLeDiff, List.length_cons, z, w1, f1, f2, hT, hkx, hky, hnm, cond_true, cond_false]
         exact ⟨s, rfl, G⟩
       | true =>
         have hil : ∀ a b : Nat, decide ((a : Int) = (b : Int)) = decide (a = b) := fun a b => by
          by_cases h : a = b
          ·rw [decide_eq_true h, decide_eq_true (by omega)]
          ·rw [decide_eq_false h, decide_eq_false (by omega)]
         have hle := hil x.args.length y.args.length
         cases hl : decide (x.args.length = y.args.length) with
         | false =>
           rw [hl] at hle
           simp only [cx, cy, ct, cu, List.map_cons, List.map_nil, List.cons_append, List.nil_append] at hT ⊢
           simp only [go_sem, Nat.reduceAdd, Nat.reduceLeDiff, List.length_cons, z, w1, f1, f2, hT, hkx, hky, hnm, Qa, List.length_map, hle, cond_true, cond_false]
           exact ⟨s, rfl, G⟩
         | true =>
           rw [hl] at hle
           have hl' := of_decide_eq_true hl
           have hlen : st.reverse.length + x.args.length < 2^30 := by rw [List.length_reverse]; omega
           obtain ⟨s', loc', e1, S1, M1, L1, G1⟩ := QbE ((AV.int .i64 av :: t.cells).map .val) ((AV.int .i64 bv :: u.cells).map .val) M x y hl' (by omega) s0 hM0 g x.args y.args [] [] st.reverse loc s 0 rfl rfl rfl rfl hlen hS' hM hlt G
           have hrev : st.reverse ++ x.args.zip y.args = ((x.args.zip y.args).reverse ++ st).reverse := by simp
           have hz := Qep x.args y.args
           have i := Q78 av bv t u ha hb M s0 hM0 k ((x.args.zip y.args).reverse ++ st) g loc' s' (by omega) (by rw [Qjv, Qjw]; omega) (fun p h => by
            rcases List.mem_append.1 h with h | h
            ·exact P.kids p (List.mem_reverse.1 h)
            ·exact hps p h) hg (by rw [← hrev]; exact S1) M1 L1 G1
           rw [hrev, List.length_reverse, List.length_reverse, show ((0 : Nat) : Int) = 0 from rfl] at e1
           rw [← e1] at i
           simp only [cx, cy, ct, cu, List.map_cons, List.map_nil, List.cons_append, List.nil_append] at hT i ⊢
           simp only [go_sem, Nat.reduceAdd, Nat.reduceLeDiff, List.length_cons, z, w1, f1, f2, hT, hkx, hky, hnm, Qa, List.length_map, hle, cond_true, cond_false]
           exact i
end Go.Proofs.YtobelgghegmhhaaGreatDoor
namespace Go.Proofs.YtobelgghegmhhaaGreatDoor
open Go Go.Am
set_option linter.unusedVariables false
set_option maxRecDepth 4000
theorem Qmr {e : TypeId} {t : TI} {v : AV} (s : St) (h : v.cells.length = t.size) (ht : v.isTup = false) (hb : t.bytes ≤ 2^16) : bslV e t s [.val v] = some (.val (.vs s.locs.length e t.size 0 1), s.addLoc (.var ((flatL [v]).map .val))) := by
 unfold bslV
 rw [QiB h ht, QiA]
 simp only [Option.map_some, newV, List.length_singleton]
 rw [if_pos ⟨by omega, by omega⟩]
theorem Q4t (a b : Sch) (ha : SchOK a) (hb : SchOK b) (s : St) : Ret (cw (.f ZV) [a.enc, b.enc] s) s (.bool (moreP a.vars a.ty b.vars b.ty)) := by
 obtain ⟨av, t⟩ := a
 obtain ⟨bv, u⟩ := b
 obtain ⟨s1, e1, g1⟩ := Zf av t s (by have := ha.size; simp only at this; omega) ha.names
 have ct := Ty.cells_eq t
 have cu := Ty.cells_eq u
 change cw _ _ _ = some (.ret (.val (.bool (rightSB av t))), s1) at e1
 rw [Qb1]
 unfold moreP
 cases hr : rightSB av t with
 | false =>
   rw [hr] at e1
   simp only [Sch.enc, Sch.cells, ct, cu] at e1 ⊢
   simp only [go_sem, Nat.reduceAdd, Nat.reduceLeDiff, e1]
   exact ⟨s1, rfl, g1⟩
 | true =>
   obtain ⟨s2, e2, g2⟩ := Zf bv u s1 (by have := hb.size; simp only at this; omega) hb.names
   change cw _ _ _ = some (.ret (.val (.bool (rightSB bv u))), s2) at e2
   rw [hr] at e1
   cases hr2 : rightSB bv u with
   | false =>
     rw [hr2] at e2
     simp only [Sch.enc, Sch.cells, ct, cu] at e1 e2 ⊢
     simp only [go_sem, Nat.reduceAdd, Nat.reduceLeDiff, e1, e2]
     exact ⟨s2, rfl, g1.trans g2⟩
   | true =>
     rw [hr2] at e2
     have r1 := Q0S hr
     have r2 := Q0S hr2
     have e3 := Qmr (e := Qt) (t := C.ti Qt) (v := encP (t, u)) (s2.addLoc (.map [] 0)) (by rw [Q16]; exact Q8G _) rfl (by rw [Q6G]; decide)
     rw [Q16] at e3
     have gM : Grew s2 ((s2.addLoc (.map [] 0)).addLoc (.var ((flatL [encP (t, u)]).map .val))) := ((Grew.refl s2).addLoc _).addLoc _
     obtain ⟨s4, e4, g4⟩ := Q78 av bv t u r1.2 r2.2 s2.locs.length s2 (Nat.le_refl _) t.size [(t, u)] (fun _ => none) (s2.addLoc (.map [] 0)).locs.length ((s2.addLoc (.map [] 0)).addLoc (.var ((flatL [encP (t, u)]).map .val))) ha.size (by simp [sumX]) (by
       intro p hp
       rw [List.mem_singleton.1 hp]
       exact ⟨ha.var r1.1, hb.var r2.1, ha.size, hb.size⟩) (fun n w h => by cases h) ⟨[], by rw [Q4E]; simp [flatP]⟩ ⟨[], 0, [], by simp [St.addLoc], .nil⟩ (by simp [St.addLoc]) gM
     refine ⟨s4, ?_, (g1.trans g2).trans g4⟩
     simp only [Bool.not_true, Bool.or_self, cond_false]
     simp only [encP, ct, cu, List.cons_append, List.nil_append, List.map_cons, List.map_nil, List.length_singleton] at e3 e4
     simp only [Sch.enc, Sch.cells, ct, cu] at e1 e2 ⊢
     simp only [go_sem, Nat.reduceAdd, Nat.reduceLeDiff, e1, e2, e3] at e4 ⊢
     exact e4
end Go.Proofs.YtobelgghegmhhaaGreatDoor
namespace Go.Am
open Go
mutual
def sizeR (l : List Ty) : Ty → Nat
 | .mk k n _ ags _ => bif decide (k = 1) && decide (n < l.length) then (l.getD n.toNat default).size else 1 + sizesR l ags
def sizesR (l : List Ty) : List Ty → Nat
 | [] => 0
 | t :: r => sizeR l t + sizesR l r
end
mutual
def put10 (l : List Ty) : Ty → Ty
 | .mk k n s a b => bif decide (k = 1) then (bif decide (n < l.length) then l.getD n.toNat default else .mk k n s a b) else .mk k n s (put10s l a) true
def put10s (l : List Ty) : List Ty → List Ty
 | [] => []
 | t :: r => put10 l t :: put10s l r
end
theorem Qhs {l : List Ty} {M : Nat} (h : ∀ u ∈ l, u.size ≤ M) (i : Nat) (hi : i < l.length) : (l.getD i default).size ≤ M := by
 rw [List.getD_eq_getElem?_getD, List.getElem?_eq_getElem hi]
 exact h _ (List.getElem_mem hi)
mutual
theorem Qjq {l : List Ty} {M : Nat} (h : ∀ u ∈ l, u.size ≤ M) : ∀ t : Ty, allTy (varB fun n => decide (0 ≤ n)) t = true → sizeR l t ≤ t.size * (M + 1)
 | .mk k n nm ags b, hp => by
   simp only [allTy, Bool.and_eq_true] at hp
   have h1 := Qc0 h ags hp.2
   simp only [sizeR, Ty.size, Nat.add_mul]
   cases hk : decide (k = 1) && decide (n < l.length) with
   | false => simp only [cond_false]; omega
   | true =>
     simp only [Bool.and_eq_true, decide_eq_true_eq] at hk
     have hn : 0 ≤ n := by
      have := hp.1
      unfold varB at this
      simp [Ty.kind, Ty.n, hk.1] at this
      exact of_decide_eq_true this
     have := Qhs h n.toNat (by omega)
     simp only [cond_true]; omega
theorem Qc0 {l : List Ty} {M : Nat} (h : ∀ u ∈ l, u.size ≤ M) : ∀ r : List Ty, allTys (varB fun n => decide (0 ≤ n)) r = true → sizesR l r ≤ Ty.sizes r * (M + 1)
 | [], _ => by simp [sizesR]
 | t :: r, hp => by
   simp only [allTys, Bool.and_eq_true] at hp
   have h1 := Qjq h t hp.1
   have h2 := Qc0 h r hp.2
   simp only [sizesR, Ty.sizes, Nat.add_mul]; omega
end
end Go.Am
namespace Go.Proofs.YtobelgghegmhhaaGreatDoor
open Go Go.Am
set_option linter.unusedVariables false
set_option maxRecDepth 4000
theorem Q4p (vars : Int) (t : Ty) (s : St) (h : t.size < 2^28) (hn : NamesTy t) : Ret (cw (.f Q20) [.agg (.int .i64 vars :: t.cells)] s) s (.bool (rightSB vars t)) := by
 obtain ⟨s1, e1, g1⟩ := Q4n t s h hn
 have c := Ty.cells_eq t
 have hc : rightSB vars t = (decide (vars ≥ 0) && (decide (vars ≤ 256) && rightTyB t)) := by
  unfold rightSB
  cases rightTyB t <;> cases decide (vars ≥ 0) <;> cases decide (vars ≤ 256) <;> rfl
 rw [QaX, hc]
 simp only [go_sem, Nat.reduceAdd, Nat.reduceLeDiff, c, Ty.enc] at e1 ⊢
 cases h1 : decide (vars ≥ 0) with
 | false => simp only [go_sem, h1]; exact Ret.same _ _
 | true =>
   cases h2 : decide (vars ≤ 256) with
   | false => simp only [go_sem, h1, h2]; exact Ret.same _ _
   | true => simp only [go_sem, h1, h2, e1]; exact ⟨s1, rfl, g1⟩
end Go.Proofs.YtobelgghegmhhaaGreatDoor
namespace Go.Am
open Go
def leadD (u : Nat) : Str := if u = 0 then [] else Go.Lib.decDigits u
theorem Q60 (u : Nat) : leadD (u / 10) ++ [UInt8.ofNat (48 + u % 10)] = Go.Lib.decDigits u := by
 rw [Go.Lib.decDigits]
 unfold leadD
 by_cases h : u < 10
 ·rw [if_pos (by omega), dif_pos h, Nat.mod_eq_of_lt h]; rfl
 ·rw [if_neg (by omega), dif_neg h]
end Go.Am
namespace Go.Proofs.YtobelgghegmhhaaGreatDoor
open Go Go.Am
set_option linter.unusedVariables false
set_option maxRecDepth 4000
theorem Qbj (m : Nat) (h : m < 256) : convS (C.ti QL) (C.ti Q9) (.val (.int .u64 m)) = some (.val (.int .u8 m)) := by
 have k1 : (C.ti QL).k = .int .u64 := by kernel_rfl
 have k2 : (C.ti Q9).k = .int .u8 := by kernel_rfl
 have w : IntKind.u8.wrap (m : Int) = m := by simp [IntKind.wrap, IntKind.bits, IntKind.signed]; omega
 simp only [convS, k1, k2, w]
theorem Q5T (m : Nat) (h : m < 256) : convS (C.ti Qz) (C.ti Q2) (.full [.int .u8 m]) (.int .u8) = some (.val (.str [UInt8.ofNat m])) := by
 have k1 : (C.ti Qz).k = .slice Q9 := by kernel_rfl
 have k2 : (C.ti Q2).k = .str := by kernel_rfl
 simp only [convS, convStr, k1, k2, Slot.list?, u8s, List.map_cons, List.map_nil, Int.toNat_natCast]
theorem Q8b (u : Nat) (h : u < 2^63) : (u : Int).tmod 10 = ((u % 10 : Nat) : Int) ∧ IntKind.u64.wrap (48 + ((u % 10 : Nat) : Int)) = ((48 + u % 10 : Nat) : Int) ∧ IntKind.u64.wrap ((u : Int).tdiv 10) = ((u / 10 : Nat) : Int) := by
 refine ⟨?_, ?_, ?_⟩
 ·rw [Int.tmod_eq_emod_of_nonneg (by omega)]; omega
 ·simp only [IntKind.wrap, IntKind.bits, IntKind.signed]; simp; omega
 ·rw [Int.tdiv_eq_ediv_of_nonneg (by omega)]
  simp only [IntKind.wrap, IntKind.bits, IntKind.signed]; simp; omega
theorem Q9W (n : Int) (hn : 0 ≤ n) (s : St) : ∀ (k u : Nat) (acc : Str), u ≤ k → u < 2^63 → (leadD u).length + acc.length < 2^40 →
  Q0X (.val (.int .i64 n)) (.val (.int .u64 u)) (.val (.str acc)) s = some (.ret (.val (.str (leadD u ++ acc))), s) := by
 have hneg : decide (n < 0) = false := decide_eq_false (by omega)
 intro k
 induction k with
 | zero =>
   intro u acc hk hu hl
   obtain rfl : u = 0 := by omega
   have z : decide (((0 : Nat) : Int) > 0) = false := rfl
   rw [Q2c]
   simp only [go_sem, Int.reduceEq, ne_eq, not_false_eq_true, z, hneg]
   rfl
 | succ k ih =>
   intro u acc hk hu hl
   by_cases h0 : u = 0
   ·subst h0
    have z : decide (((0 : Nat) : Int) > 0) = false := rfl
    rw [Q2c]
    simp only [go_sem, Int.reduceEq, ne_eq, not_false_eq_true, z, hneg]
    rfl
   ·obtain ⟨f1, f2, f3⟩ := Q8b u hu
    have z : decide ((u : Int) > 0) = true := decide_eq_true (by omega)
    have e1 := Qbj (48 + u % 10) (by omega)
    have e2 := Q5T (48 + u % 10) (by omega)
    have hs : leadD u = leadD (u / 10) ++ [UInt8.ofNat (48 + u % 10)] := by rw [Q60]; unfold leadD; rw [if_neg h0]
    rw [hs, List.length_append, List.length_singleton] at hl
    have a1 : binS (C.ti Q2) .add (.val (.str [UInt8.ofNat (48 + u % 10)])) (.val (.str acc)) = some (.val (.str (UInt8.ofNat (48 + u % 10) :: acc))) := QP (by simp; omega)
    have e3 := ih (u / 10) (UInt8.ofNat (48 + u % 10) :: acc) (by omega) (by omega) (by simp only [List.length_cons]; omega)
    rw [Q2c]
    simp only [go_sem, Int.reduceEq, Nat.reduceAdd, ne_eq, not_false_eq_true, z, f1, f2, f3, e1, e2, a1, e3]
    rw [hs]; simp
theorem Q9X (n : Int) (h0 : 0 ≤ n) (h : n < 2^62) (s : St) : cw (.f Q1j) [.int .i64 n] s = some (.ret (.val (.str (Go.Lib.itoa n))), s) := by
 obtain ⟨u, rfl⟩ := Int.eq_ofNat_of_zero_le h0
 have hneg : decide ((u : Int) < 0) = false := decide_eq_false (by omega)
 obtain ⟨f1, f2, f3⟩ := Q8b u (by omega)
 have e1 := Qbj (48 + u % 10) (by omega)
 have e2 := Q5T (48 + u % 10) (by omega)
 have k0 : convS (C.ti Q1) (C.ti QL) (.val (.int .i64 u)) = some (.val (.int .u64 u)) := by
  have k1 : (C.ti QL).k = .int .u64 := by kernel_rfl
  have k2 : (C.ti Q1).k = .int .i64 := by kernel_rfl
  have w : IntKind.u64.wrap (u : Int) = u := by simp only [IntKind.wrap, IntKind.bits, IntKind.signed]; simp; omega
  simp only [convS, k1, k2, w]
 have hlen := Go.Lib.itoa_length_le (u : Int) (by omega) (by omega)
 rw [Go.Lib.itoa_nonneg, ← Q60, List.length_append, List.length_singleton] at hlen
 have e3 := Q9W u h0 s (u / 10) (u / 10) [UInt8.ofNat (48 + u % 10)] (Nat.le_refl _) (by omega) (by simp only [List.length_singleton]; omega)
 rw [Q60] at e3
 rw [Go.Lib.itoa_nonneg, Qcs]
 simp only [go_sem, Int.reduceEq, Nat.reduceAdd, ne_eq, not_false_eq_true, k0, hneg, Q8S, f1, f2, f3, e1, e2, e3]
theorem Q5t (n : Int) (h0 : 0 ≤ n) (h : n < 2^63) (s : St) : cw (.f Q38) [.int .i64 n] s = some (.ret (.val (.str (letT n))), s) := by
 have a1 : n.tmod 26 = n % 26 := Int.tmod_eq_emod_of_nonneg h0
 have a2 : n.tdiv 26 = n / 26 := Int.tdiv_eq_ediv_of_nonneg h0
 have b1 : IntKind.i64.wrap (97 + n % 26) = 97 + n % 26 := wrap64 (by omega) (by omega)
 have b2 : IntKind.i64.wrap (n / 26) = n / 26 := wrap64 (by omega) (by omega)
 have e1 := Q9X (n / 26) (by omega) (by omega) s
 obtain ⟨m, hm⟩ := Int.eq_ofNat_of_zero_le (show 0 ≤ 97 + n % 26 by omega)
 have e2 := Q5T m (by omega)
 have k0 : convS (C.ti Q1) (C.ti Q9) (.val (.int .i64 (97 + n % 26))) = some (.val (.int .u8 m)) := by
  have k1 : (C.ti Q9).k = .int .u8 := by kernel_rfl
  have k2 : (C.ti Q1).k = .int .i64 := by kernel_rfl
  have w : IntKind.u8.wrap (97 + n % 26) = m := by rw [hm]; simp [IntKind.wrap, IntKind.bits, IntKind.signed]; omega
  simp only [convS, k1, k2, w]
 have hl := Qdz (n / 26) (by omega) (by omega)
 have hb : UInt8.ofNat (97 + n % 26).toNat = UInt8.ofNat m := by rw [hm]; rfl
 rw [Qeb]
 unfold letT
 rw [hb]
 cases hn : decide (n > 25) with
 | false => simp only [go_sem, Int.reduceEq, Nat.reduceAdd, ne_eq, not_false_eq_true, a1, b1, k0, e2, hn]
 | true =>
   have c1 : binS (C.ti Q2) .add (.val (.str [UInt8.ofNat m])) (.val (.str (Go.Lib.itoa (n / 26)))) = some (.val (.str (UInt8.ofNat m :: Go.Lib.itoa (n / 26)))) := QP (by simp; omega)
   simp only [go_sem, Int.reduceEq, Nat.reduceAdd, ne_eq, not_false_eq_true, a1, a2, b1, b2, k0, e2, hn, e1, c1]
end Go.Proofs.YtobelgghegmhhaaGreatDoor
namespace Go.Am
open Go
theorem Qib {p : UInt8 → Bool} : ∀ {l : Str}, l.all p = true → l.takeWhile p = l
 | [], _ => rfl
 | c :: l, h => by
   simp only [List.all_cons, Bool.and_eq_true] at h
   rw [List.takeWhile_cons, h.1, if_pos rfl, Qib h.2]
theorem Qhn {c : UInt8} (h : firC c = true) : digC c = false ∧ blankC c = false ∧ decide (c = 40) = false := by
 unfold firC firB at h
 simp only [Bool.or_eq_true, Bool.and_eq_true, decide_eq_true_eq] at h
 refine ⟨?_, ?_, ?_⟩
 ·unfold digC digB
  rw [Bool.and_eq_false_iff, decide_eq_false_iff_not, decide_eq_false_iff_not]
  omega
 ·unfold blankC
  have : ∀ x : UInt8, x.toNat ≤ 32 → decide (c = x) = false := fun x hx => decide_eq_false (by rintro rfl; omega)
  rw [this 32 (by decide), this 9 (by decide), this 10 (by decide), this 13 (by decide)]; rfl
 ·exact decide_eq_false (by rintro rfl; revert h; decide)
theorem QhW {nm : Str} (h0 : nm ≠ []) (hf : firC (nm.headD 0) = true) (ha : nm.all amoC = true) (h95 : nm ≠ [95]) (hl : nm.length ≤ 32) : lxScan nm = ([⟨namedA nm, 0, nm, 0⟩], 0, 0) := by
 obtain ⟨c, r, rfl⟩ := List.exists_cons_of_ne_nil h0
 have hf : firC c = true := hf
 obtain ⟨f1, f2, f3⟩ := Qhn hf
 have ho : lxOpens (c :: r) = false := by
  unfold lxOpens
  cases r with
  | nil => rfl
  | cons d r => simp only [f3, Bool.false_and]
 have h1 : oneA (c :: r) (tildeL []) = (0, ⟨namedA (c :: r), 0, c :: r, 0⟩) := by
  unfold oneA
  rw [Qib ha]
  simp only [List.headD_cons, f1, hf, cond_false, cond_true, decide_eq_false h95, decide_eq_false (show ¬ ((c :: r).length : Int) > 32 by omega)]
 have hz : scanF r.length (0 + (c :: r).length) ((c :: r).drop (c :: r).length) ([] ++ [⟨namedA (c :: r), 0, c :: r, 0⟩]) = ([⟨namedA (c :: r), 0, c :: r, 0⟩], 0, 0) := by
  rw [List.drop_length]
  cases r.length <;> rfl
 unfold lxScan
 rw [decide_eq_false (by omega), cond_false]
 show scanF (r.length + 1 + 1) 0 (c :: r) [] = _
 unfold scanF
 simp only [f2, ho, cond_false, h1, List.length_nil, decide_true, cond_true]
 rw [decide_eq_false (by omega), cond_false]
 unfold scanF
 rw [List.drop_length]
 rfl
theorem Qer {nm : Str} (h0 : nm ≠ []) (hf : firC (nm.headD 0) = true) (ha : nm.all amoC = true) (h95 : nm ≠ [95]) (hl : nm.length ≤ 32) (hn : namedA nm = 2) : tokB nm = true := by
 unfold tokB
 rw [QhW h0 hf ha h95 hl]
 simp [hn]
theorem Qkv : ∀ w ∈ [116, 114, 117, 101] :: [102, 97, 108, 115, 101] :: [95] :: lwords, lowB w = false := by decide +kernel
theorem Qjn (n : Int) (h : unrestB n = false) : amoB n = true := by
 unfold unrestB smallB greatB at h
 unfold amoB firB digB
 by_cases h1 : n ≥ 97 <;> by_cases h2 : n ≤ 122 <;> by_cases h3 : n = 95 <;> by_cases h4 : n ≥ 65 <;> by_cases h5 : n ≤ 90 <;> by_cases h6 : n < 48 <;> by_cases h7 : n > 57 <;> by_cases h8 : n = 39 <;> simp [h1, h2, h3, h4, h5, h6, h7, h8] at h ⊢ <;> omega
theorem QkI {nm : Str} (h : lowB nm = true) : tokB nm = true := by
 have hw : ∀ w ∈ [116, 114, 117, 101] :: [102, 97, 108, 115, 101] :: [95] :: lwords, nm ≠ w := fun w hm e => by
  have := Qkv w hm
  rw [← e, h] at this; cases this
 have h' := h
 unfold lowB runB restAll at h
 simp only [Bool.and_eq_true, Bool.not_eq_true', decide_eq_false_iff_not, decide_eq_true_eq] at h
 obtain ⟨⟨⟨h0, hs⟩, hr, hl⟩, -⟩ := h
 obtain ⟨c, r, rfl⟩ := List.exists_cons_of_ne_nil h0
 have hs : smallB (c.toNat : Int) = true := hs
 have hf : firC c = true := by
  unfold smallB at hs
  unfold firC firB
  simp only [Bool.or_eq_true] at hs ⊢
  exact hs.elim (fun x => .inl (.inl x)) .inr
 refine Qer h0 hf ?_ (hw [95] (by simp)) hl ?_
 ·rw [List.all_cons, show amoC c = true by unfold amoC amoB; unfold firC at hf; rw [hf]; rfl, Bool.true_and]
  rw [List.all_eq_true] at hr ⊢
  exact fun d hd => Qjn _ (by simpa using hr d hd)
 ·have e1 : hasL lwords (c :: r) = false := by
   unfold hasL
   rw [List.any_eq_false]
   exact fun w hm => by simpa using hw w (by simp [hm])
  unfold namedA
  rw [e1, cond_false, decide_eq_false (hw [116, 114, 117, 101] (by simp)), decide_eq_false (hw [102, 97, 108, 115, 101] (by simp))]
  have hd : (c :: r).headD 0 = c := rfl
  rw [hd]
  unfold smallB at hs
  simp only [Bool.or_eq_true, Bool.and_eq_true, decide_eq_true_eq] at hs
  rw [decide_eq_false (show ¬ ((c.toNat : Int) ≤ 90) by omega), Bool.and_false]
  rfl
end Go.Am
namespace Go.Am
open Go
def joinS (sep : Str) : List Str → Bool → Str
 | [], _ => []
 | s :: r, f => (bif f then s else sep ++ s) ++ joinS sep r false
def parS (b : Bool) (s : Str) : Str := bif b then 40 :: (s ++ [41]) else s
mutual
def txt10 (vars : Int) : Ty → Str
 | .mk k n nm ags _ =>
   bif decide (k = 1) then (bif decide (n < vars) then 39 :: letT n else 95 :: letT (n - vars))
   else bif decide (ags.length = 0) then nm
   else bif decide (nm = [45, 62]) then (ats10 vars ags 1).getD 0 [] ++ ([32, 45, 62, 32] ++ (ats10 vars ags 0).getD 1 [])
   else bif decide (nm = [42]) then joinS [32, 42, 32] (ats10 vars ags 2) true
   else bif decide (ags.length = 1) then (ats10 vars ags 2).getD 0 [] ++ (32 :: nm)
   else 40 :: (joinS [44, 32] (ats10 vars ags 0) true ++ (41 :: 32 :: nm))
def ats10 (vars : Int) : List Ty → Int → List Str
 | [], _ => []
 | t :: l, lv => parS (decide (levelT t < lv)) (txt10 vars t) :: ats10 vars l lv
end
def at10 (vars : Int) (t : Ty) (lv : Int) : Str := parS (decide (levelT t < lv)) (txt10 vars t)
theorem Q6L (vars : Int) (lv : Int) : ∀ l : List Ty, ats10 vars l lv = l.map fun t => at10 vars t lv
 | [] => rfl
 | t :: l => by simp only [ats10, List.map_cons, Q6L vars lv l, at10]
def show10 (vars : Int) (t : Ty) : Str := bif rightSB vars t then txt10 vars t else []
structure NiceT (l : List Str) : Prop where
 fst : ∃ s r, l = s :: r ∧ hasL glueR s = false
 lst : ∃ q z, l = q ++ [z] ∧ hasL glueL z = false
theorem Qhu (z : Str) (b : List Str) : ∀ (q : List Str) (p : Option Str), textGo p (q ++ z :: b) = textGo p (q ++ [z]) ++ textGo (some z) b
 | [], p => by simp [textGo]
 | s :: q, p => by simp only [List.cons_append, textGo, Qhu z b q, List.append_assoc]
theorem NiceT.app {l : List Str} (h : NiceT l) : ∃ z, hasL glueL z = false ∧ ∀ p b, textGo p (l ++ b) = textGo p l ++ textGo (some z) b := by
 obtain ⟨q, z, rfl, hz⟩ := h.lst
 exact ⟨z, hz, fun p b => by rw [List.append_assoc, List.singleton_append, Qhu]⟩
theorem NiceT.some {l : List Str} (h : NiceT l) (q : Str) : textGo (some q) l = bif hasL glueL q then textB l else 32 :: textB l := by
 obtain ⟨s, r, rfl, hs⟩ := h.fst
 simp only [textB, textGo, sepB, hs, Bool.not_false, Bool.and_true, cond_false]
 cases hasL glueL q <;> rfl
theorem NiceT.one {s : Str} (h1 : hasL glueR s = false) (h2 : hasL glueL s = false) : NiceT [s] := ⟨⟨s, [], rfl, h1⟩, ⟨[], s, rfl, h2⟩⟩
theorem NiceT.cat {a b c : List Str} (ha : NiceT a) (hc : NiceT c) : NiceT (a ++ (b ++ c)) := by
 obtain ⟨s, r, rfl, h1⟩ := ha.fst
 obtain ⟨q, z, rfl, h2⟩ := hc.lst
 exact ⟨⟨s, r ++ (b ++ (q ++ [z])), by simp, h1⟩, ⟨(s :: r) ++ (b ++ q), z, by simp, h2⟩⟩
theorem NiceT.par {l : List Str} (b : Bool) (h : NiceT l) : NiceT (parT b l) := by
 cases b with
 | false => exact h
 | true => exact ⟨⟨[40], l ++ [[41]], rfl, by decide⟩, ⟨[40] :: l, [41], by simp [parT], by decide⟩⟩
theorem Q97 {l : List Str} (b : Bool) (h : NiceT l) : textB (parT b l) = parS b (textB l) := by
 cases b with
 | false => rfl
 | true =>
   obtain ⟨z, hz, ha⟩ := h.app
   show textGo none ([40] :: (l ++ [[41]])) = 40 :: (textB l ++ [41])
   have h1 := h.some [40]
   rw [show hasL glueL [40] = true by decide, cond_true] at h1
   simp only [textGo, sepB, cond_false]
   rw [ha, h1]
   simp only [textGo, sepB]
   rw [show hasL glueR [41] = true by decide]
   simp
theorem Qjy {a b : List Str} (m : Str) (ha : NiceT a) (hb : NiceT b) (h1 : hasL glueR m = false) (h2 : hasL glueL m = false) : textB (a ++ ([m] ++ b)) = textB a ++ (32 :: (m ++ 32 :: textB b)) := by
 obtain ⟨z, hz, h⟩ := ha.app
 unfold textB at *
 rw [h]
 simp only [List.singleton_append, textGo, sepB, h1, hz, Bool.not_false, Bool.and_self, cond_true]
 rw [hb.some m, h2]
 rfl
theorem Qeq {a : List Str} (m : Str) (ha : NiceT a) (h1 : hasL glueR m = false) : textB (a ++ [m]) = textB a ++ (32 :: m) := by
 obtain ⟨z, hz, h⟩ := ha.app
 unfold textB at *
 rw [h]
 simp only [textGo, sepB, h1, hz, Bool.not_false, Bool.and_self, cond_true, List.append_nil]
theorem Q5H (sign sep : Str) (hg : hasL glueL sign = false) (hsep : ∀ z, hasL glueL z = false → textGo (some z) [sign] ++ [32] = sep) : ∀ (L : List (List Str)) (z : Str), (∀ l ∈ L, NiceT l) → hasL glueL z = false → textGo (some z) (joinT sign L false) = joinS sep (L.map textB) false
 | [], z, _, _ => rfl
 | l :: L, z, hL, hz => by
   have hl := hL l List.mem_cons_self
   obtain ⟨w, hw, h⟩ := hl.app
   have ih := Q5H sign sep hg hsep L w (fun x hx => hL x (List.mem_cons_of_mem _ hx)) hw
   have e := hsep z hz
   simp only [textGo, List.append_nil] at e
   simp only [joinT, cond_false, List.cons_append, textGo, h, ih, List.map_cons, joinS, hl.some sign, hg]
   rw [← e]
   simp
theorem Qc5 (sign sep : Str) (hg : hasL glueL sign = false) (hsep : ∀ z, hasL glueL z = false → textGo (some z) [sign] ++ [32] = sep) (L : List (List Str)) (hL : ∀ l ∈ L, NiceT l) : textB (joinT sign L true) = joinS sep (L.map textB) true := by
 cases L with
 | nil => rfl
 | cons l L =>
   have hl := hL l List.mem_cons_self
   obtain ⟨w, hw, h⟩ := hl.app
   have ih := Q5H sign sep hg hsep L w (fun x hx => hL x (List.mem_cons_of_mem _ hx)) hw
   unfold textB at *
   simp only [joinT, cond_true, h, ih, List.map_cons, joinS]
theorem Qjp : ∀ z, hasL glueL z = false → textGo (some z) [[42]] ++ [32] = [32, 42, 32] := by
 intro z hz
 simp only [textGo, sepB, hz]
 rw [show hasL glueR [42] = false by decide]; rfl
theorem QhX : ∀ z, hasL glueL z = false → textGo (some z) [[44]] ++ [32] = [44, 32] := by
 intro z hz
 simp only [textGo, sepB, hz]
 rw [show hasL glueR [44] = true by decide]; rfl
theorem QbH (sign : Str) : ∀ (L : List (List Str)) (f : Bool), L ≠ [] → (∀ l ∈ L, NiceT l) → ∃ q z, joinT sign L f = q ++ [z] ∧ hasL glueL z = false
 | [l], f, _, hL => by
   obtain ⟨q, z, rfl, hz⟩ := (hL l List.mem_cons_self).lst
   cases f with
   | true => exact ⟨q, z, by simp [joinT], hz⟩
   | false => exact ⟨sign :: q, z, by simp [joinT], hz⟩
 | l :: m :: L, f, _, hL => by
   obtain ⟨q, z, e, hz⟩ := QbH sign (m :: L) false (by simp) (fun x hx => hL x (List.mem_cons_of_mem _ hx))
   exact ⟨(bif f then l else sign :: l) ++ q, z, by rw [joinT, e, List.append_assoc], hz⟩
theorem NiceT.join (sign : Str) {L : List (List Str)} (h : L ≠ []) (hL : ∀ l ∈ L, NiceT l) : NiceT (joinT sign L true) := by
 refine ⟨?_, QbH sign L true h hL⟩
 cases L with
 | nil => exact absurd rfl h
 | cons l L =>
   obtain ⟨s, r, rfl, hs⟩ := (hL l List.mem_cons_self).fst
   exact ⟨s, r ++ joinT sign L false, by simp [joinT], hs⟩
theorem Qgo : ∀ w ∈ glueL ++ glueR, ((givenB w).2.2 || lowB w) = false := by decide +kernel
theorem QhG {nm : Str} (h : ((givenB nm).2.2 || lowB nm) = true) : hasL glueL nm = false ∧ hasL glueR nm = false := by
 have hw : ∀ w ∈ glueL ++ glueR, nm ≠ w := fun w hm e => by
  have := Qgo w hm
  rw [← e, h] at this; cases this
 unfold hasL
 rw [List.any_eq_false, List.any_eq_false]
 exact ⟨fun w hm => by simpa using hw w (List.mem_append_left _ hm), fun w hm => by simpa using hw w (List.mem_append_right _ hm)⟩
theorem Q2X {k n : Int} {nm : Str} {l : List Ty} {b : Bool} (h : goodB (.mk k n nm l b) = true) (hk : decide (k = 1) = false) : k = 2 ∧ n = 0 ∧ ((givenB nm).1 ≤ l.length ∧ (l.length : Int) ≤ (givenB nm).2.1) ∧ ((givenB nm).2.2 || lowB nm) = true := by
 have h : goodC k n nm l.length (lowB nm) = true := h
 unfold goodC at h
 rw [hk, cond_false] at h
 cases h2 : decide (k = 2) with
 | false => rw [h2] at h; cases h
 | true =>
   rw [h2] at h
   simp only [cond_true, Bool.and_eq_true, decide_eq_true_eq] at h
   exact ⟨of_decide_eq_true h2, h.1.1.1, ⟨h.1.1.2, h.1.2⟩, h.2⟩
theorem Qdx : givenB [45, 62] = (2, 2, true) := by decide +kernel
theorem Qgl : givenB [42] = (2, 8, true) := by decide +kernel
theorem QiH {k n : Int} {nm : Str} {l : List Ty} {b : Bool} (h : goodB (.mk k n nm l b) = true) (hk : decide (k = 1) = false) : tellN nm l.length = true := by
 obtain ⟨-, -, ⟨h1, h2⟩, h3⟩ := Q2X h hk
 unfold tellN
 unfold givenB at h1 h2 h3
 cases c1 : decide (nm = [105, 110, 116]) with
 | true => rw [c1] at h1 h2; simp only [Bool.true_or, cond_true] at h1 h2 ⊢; exact decide_eq_true (by omega)
 | false =>
   cases c2 : decide (nm = [98, 111, 111, 108]) with
   | true => rw [c1, c2] at h1 h2; simp only [Bool.false_or, Bool.true_or, cond_true] at h1 h2 ⊢; exact decide_eq_true (by omega)
   | false =>
     cases c3 : decide (nm = [117, 110, 105, 116]) with
     | true => rw [c1, c2, c3] at h1 h2; simp only [Bool.false_or, Bool.true_or, cond_true] at h1 h2 ⊢; exact decide_eq_true (by omega)
     | false =>
       cases c4 : decide (nm = [101, 120, 110]) with
       | true => rw [c1, c2, c3, c4] at h1 h2; simp only [Bool.false_or, cond_true] at h1 h2 ⊢; exact decide_eq_true (by omega)
       | false =>
         rw [c1, c2, c3, c4] at h1 h2 h3
         simp only [Bool.false_or, cond_false] at h1 h2 h3 ⊢
         cases c5 : decide (nm = [114, 101, 102]) with
         | true => rw [c5] at h1 h2; simp only [cond_true] at h1 h2 ⊢; exact decide_eq_true (by omega)
         | false =>
           rw [c5] at h1 h2 h3
           simp only [cond_false] at h1 h2 h3 ⊢
           cases c6 : decide (nm = [45, 62]) with
           | true => rw [c6] at h1 h2; simp only [cond_true] at h1 h2 ⊢; exact decide_eq_true (by omega)
           | false =>
             rw [c6] at h1 h2 h3
             simp only [cond_false] at h1 h2 h3 ⊢
             cases c7 : decide (nm = [42]) with
             | true => rw [c7] at h1 h2; simp only [cond_true, Bool.and_eq_true, decide_eq_true_eq] at h1 h2 ⊢; omega
             | false =>
               rw [c7] at h1 h2 h3
               simp only [cond_false, Bool.false_or] at h1 h2 h3 ⊢
               rw [QkI h3, Bool.true_and]
               exact decide_eq_true (by omega)
theorem Qgb : ∀ u : Nat, (Go.Lib.decDigits u).all amoC = true := by
 intro u
 induction u using Nat.strongRecOn with
 | _ u ih =>
   have hd : ∀ m, m < 10 → amoC (UInt8.ofNat (48 + m)) = true := by
    intro m hm
    have : m = 0 ∨ m = 1 ∨ m = 2 ∨ m = 3 ∨ m = 4 ∨ m = 5 ∨ m = 6 ∨ m = 7 ∨ m = 8 ∨ m = 9 := by omega
    rcases this with rfl | rfl | rfl | rfl | rfl | rfl | rfl | rfl | rfl | rfl <;> decide
   rw [Go.Lib.decDigits]
   by_cases h : u < 10
   ·rw [dif_pos h]
    simp only [List.all_cons, List.all_nil, Bool.and_true]
    exact hd u h
   ·rw [dif_neg h, List.all_append, ih (u / 10) (by omega)]
    simp only [List.all_cons, List.all_nil, Bool.and_true, Bool.true_and]
    exact hd _ (by omega)
def keptN (m : Int) : Str := 95 :: (letT (m % 26) ++ bif decide (m / 26 = 0) then [] else Go.Lib.itoa (m / 26))
theorem QdD : ∀ r : Nat, r < 26 → amoC (UInt8.ofNat (97 + r)) = true := by
 intro r hr
 have : ∀ i : Fin 26, amoC (UInt8.ofNat (97 + i.val)) = true := by decide
 exact this ⟨r, hr⟩
theorem Q3Y {m : Int} (h : 0 ≤ m) : letT (m % 26) = [UInt8.ofNat (97 + (m % 26).toNat)] := by
 unfold letT
 rw [decide_eq_false (by omega), cond_false]
 congr 2
 omega
theorem Qj0 {m : Int} (h : 0 ≤ m) : keptN m = 95 :: letT m := by
 unfold keptN
 rw [Q3Y h]
 unfold letT
 have h1 : (97 + m % 26).toNat = 97 + (m % 26).toNat := by omega
 rw [h1]
 by_cases hm : m > 25
 ·rw [decide_eq_true hm, decide_eq_false (by omega)]; rfl
 ·rw [decide_eq_false hm, decide_eq_true (by omega)]; rfl
theorem Qj8 : ∀ w ∈ lwords, w.headD 0 ≠ 95 := by decide
theorem QdA {m : Int} (h : 0 ≤ m) (h' : m ≤ 9223372036854775807) : tokB (keptN m) = true ∧ (keptN m).length ≤ 32 := by
 have hl : (keptN m).length ≤ 32 := by
  unfold keptN
  rw [Q3Y h]
  have := Go.Lib.itoa_length_le (m / 26) (by omega) (by omega)
  cases decide (m / 26 = 0) <;> simp <;> omega
 refine ⟨Qer (by simp [keptN]) rfl ?_ ?_ hl ?_, hl⟩
 ·unfold keptN
  rw [Q3Y h]
  simp only [List.all_cons, List.all_append, List.all_nil, Bool.and_true, QdD _ (show (m % 26).toNat < 26 by omega)]
  rw [show amoC 95 = true by decide]
  cases decide (m / 26 = 0) with
  | true => rfl
  | false =>
    obtain ⟨u, hu⟩ := Int.eq_ofNat_of_zero_le (show 0 ≤ m / 26 by omega)
    rw [hu, Go.Lib.itoa_nonneg]
    simp only [cond_false, Qgb, Bool.and_self]
 ·unfold keptN
  rw [Q3Y h]
  simp
 ·have e1 : hasL lwords (keptN m) = false := by
   unfold hasL
   rw [List.any_eq_false]
   intro w hm
   simp only [decide_eq_true_eq]
   intro e
   exact Qj8 w hm (by rw [← e]; rfl)
  unfold namedA
  rw [e1]
  unfold keptN
  simp
theorem QbD (m : Int) : hasL glueL (keptN m) = false ∧ hasL glueR (keptN m) = false := by
 unfold hasL keptN glueL glueR
 simp
theorem Qez (n : Int) : hasL glueL (39 :: letT n) = false ∧ hasL glueR (39 :: letT n) = false := by
 unfold hasL glueL glueR
 simp
end Go.Am
namespace Go.Am
open Go
def ShowsT (vars : Int) (t : Ty) : Prop := ∀ lv : Int, lv ≤ 2 → NiceT (typT (rebT (showF vars) t) lv) ∧ textB (typT (rebT (showF vars) t) lv) = at10 vars t lv
def VarOK (t : Ty) : Prop := allTy (varB fun n => decide (0 ≤ n) && decide (n ≤ 9223372036854775807)) t = true
theorem Q53 (vars lv : Int) : ∀ l : List Ty, typTs (rebTs (showF vars) l) lv = l.map fun t => typT (rebT (showF vars) t) lv
 | [] => rfl
 | t :: l => by simp only [rebTs, typTs, List.map_cons, Q53 vars lv l]
theorem Q2M {vars lv : Int} (hlv : lv ≤ 2) {l : List Ty} (h : ∀ t ∈ l, ShowsT vars t) : (∀ x ∈ typTs (rebTs (showF vars) l) lv, NiceT x) ∧ (typTs (rebTs (showF vars) l) lv).map textB = ats10 vars l lv := by
 rw [Q53, Q6L]
 refine ⟨fun x hx => ?_, ?_⟩
 ·obtain ⟨t, ht, rfl⟩ := List.mem_map.1 hx
  exact (h t ht lv hlv).1
 ·rw [List.map_map]
  exact List.map_congr_left fun t ht => (h t ht lv hlv).2
theorem QbR (f : Int → Ty) (l : List Ty) : (rebTs f l).length = l.length := by rw [Q7h, List.length_map]
theorem QbY (vars : Int) (hv : 0 ≤ vars) : ∀ (m : Nat) (t : Ty), t.size ≤ m → allTy goodB t = true → VarOK t → ShowsT vars t
 | 0, t, h, _, _ => by have := Ty.size_pos t; omega
 | m + 1, .mk k n nm ags b, h, hg, hp => fun lv hlv => by
   have hg0 := hg
   simp only [allTy, Bool.and_eq_true] at hg
   unfold VarOK at hp
   simp only [allTy, Bool.and_eq_true] at hp
   simp only [Ty.size] at h
   simp only [rebT]
   cases hk : decide (k = 1) with
   | true =>
     obtain ⟨h0, rfl, rfl⟩ := Q2b hg.1 hk
     have hn := Q1x hp.1 hk
     simp only [Bool.and_eq_true, decide_eq_true_eq] at hn
     obtain rfl := of_decide_eq_true hk
     have hlev : levelT (.mk 1 n [] [] b) = 2 := rfl
     have hat : at10 vars (.mk 1 n [] [] b) lv = bif decide (n < vars) then 39 :: letT n else 95 :: letT (n - vars) := by
      unfold at10 parS
      rw [hlev, decide_eq_false (by omega), cond_false]
      simp only [txt10, decide_true, cond_true]
     rw [hat, cond_true]
     unfold showF
     cases hd : decide (n < vars) with
     | true =>
       simp only [cond_true, tvar, typT, decide_true]
       exact ⟨.one (Qez n).2 (Qez n).1, by simp [textB, textGo, sepB]⟩
     | false =>
       have hd' := of_decide_eq_false hd
       have hkn : (95 :: (letT ((n - vars) % 26) ++ bif decide ((n - vars) / 26 = 0) then [] else Go.Lib.itoa ((n - vars) / 26))) = keptN (n - vars) := rfl
       have hne1 : decide (keptN (n - vars) = [45, 62]) = false := by unfold keptN; simp
       have hne2 : decide (keptN (n - vars) = [42]) = false := by unfold keptN; simp
       simp only [cond_false, hkn, ofTy, List.map_nil, typT, hne1, hne2]
       rw [show decide ((2 : Int) = 1) = false from rfl, show decide (([] : List Ty).length = 0) = true from rfl]
       simp only [cond_false, cond_true]
       exact ⟨.one (QbD _).2 (QbD _).1, by rw [← Qj0 (by omega)]; simp [textB, textGo, sepB]⟩
   | false =>
     obtain ⟨rfl, rfl, ⟨hl1, hl2⟩, hnm⟩ := Q2X hg.1 hk
     have HV : ∀ u ∈ ags, ShowsT vars u := fun u hu => by
      have h2 := Ty.mem_sizes hu
      exact QbY vars hv m u (by omega) (Q1o hg.2 u hu) (Q1o hp.2 u hu)
     obtain ⟨g1, g2⟩ := QhG hnm
     simp only [cond_false, typT, QbR, hk]
     have hat : at10 vars (.mk 2 0 nm ags b) lv = parS (decide (levelT (.mk 2 0 nm ags b) < lv)) (txt10 vars (.mk 2 0 nm ags b)) := rfl
     rw [hat]
     simp only [txt10, hk, cond_false]
     have hlev : levelT (.mk 2 0 nm ags b) = bif decide (nm = [45, 62]) then 0 else bif decide (nm = [42]) then 1 else 2 := rfl
     rw [hlev]
     cases c1 : decide (nm = [45, 62]) with
     | true =>
       obtain rfl := of_decide_eq_true c1
       rw [Qdx] at hl1 hl2
       obtain ⟨a1, a2⟩ := Q2M (vars := vars) (lv := 1) (by decide) HV
       obtain ⟨b1, b2⟩ := Q2M (vars := vars) (lv := 0) (by decide) HV
       match ags, hl1, hl2 with
       | [x, y], _, _ =>
         simp only [rebTs, typTs, List.map_cons, List.map_nil, ats10, List.cons.injEq, and_true] at a1 a2 b1 b2
         have ha := a1 (typT (rebT (showF vars) x) 1) (by simp)
         have hb := b1 (typT (rebT (showF vars) y) 0) (by simp)
         have hm := Qjy [45, 62] ha hb (by decide) (by decide)
         have hN : NiceT (typT (rebT (showF vars) x) 1 ++ ([[45, 62]] ++ typT (rebT (showF vars) y) 0)) := .cat ha hb
         simp only [rebTs, typTs, ats10, List.getD_cons_zero, List.getD_cons_succ, cond_true, cond_false, List.append_assoc]
         rw [show decide (([x, y] : List Ty).length = 0) = false from rfl, cond_false]
         refine ⟨.par _ hN, ?_⟩
         rw [Q97 _ hN, hm, a2.1, b2.2]
         rfl
       | [], h, _ => simp at h
       | [_], h, _ => simp at h
       | _ :: _ :: _ :: _, _, h => simp at h; omega
     | false =>
       cases c2 : decide (nm = [42]) with
       | true =>
         obtain rfl := of_decide_eq_true c2
         rw [Qgl] at hl1
         have hne : ags ≠ [] := by rintro rfl; simp at hl1
         obtain ⟨a1, a2⟩ := Q2M (vars := vars) (lv := 2) (by decide) HV
         have hne' : typTs (rebTs (showF vars) ags) 2 ≠ [] := by rw [Q53]; simpa using hne
         have hN := NiceT.join [42] hne' a1
         simp only [cond_true, cond_false]
         have hz : decide (ags.length = 0) = false := decide_eq_false (by simpa using hne)
         simp only [hz, cond_false]
         refine ⟨.par _ hN, ?_⟩
         rw [Q97 _ hN, Qc5 [42] [32, 42, 32] (by decide) Qjp _ a1, a2]
       | false =>
         simp only [cond_false]
         have hlv2 : decide ((2 : Int) < lv) = false := decide_eq_false (by omega)
         cases c3 : decide (ags.length = 0) with
         | true =>
           simp only [cond_true, hlv2, parS, cond_false]
           exact ⟨.one g2 g1, by simp [textB, textGo, sepB]⟩
         | false =>
           simp only [cond_false, hlv2, parS]
           cases c4 : decide (ags.length = 1) with
           | true =>
             obtain ⟨a1, a2⟩ := Q2M (vars := vars) (lv := 2) (by decide) HV
             match ags, of_decide_eq_true c4 with
             | [x], _ =>
               simp only [rebTs, typTs, List.map_cons, List.map_nil, ats10, List.cons.injEq, and_true] at a1 a2
               have ha := a1 (typT (rebT (showF vars) x) 2) (by simp)
               simp only [rebTs, typTs, ats10, List.getD_cons_zero, cond_true]
               refine ⟨by simpa using NiceT.cat (b := []) ha (.one g2 g1), ?_⟩
               rw [Qeq nm ha g2, a2]
           | false =>
             obtain ⟨a1, a2⟩ := Q2M (vars := vars) (lv := 0) (by decide) HV
             have hne : ags ≠ [] := by rintro rfl; simp at c3
             have hne' : typTs (rebTs (showF vars) ags) 0 ≠ [] := by rw [Q53]; simpa using hne
             have hN := NiceT.join [44] hne' a1
             have hP : NiceT ([40] :: (joinT [44] (typTs (rebTs (showF vars) ags) 0) true ++ [[41]])) := hN.par true
             have hT := Q97 true hN
             simp only [parT, cond_true] at hT
             simp only [cond_false]
             refine ⟨by simpa using NiceT.cat (b := []) hP (.one g2 g1), ?_⟩
             rw [Qeq nm hP g2, hT, Qc5 [44] [44, 32] (by decide) QhX _ a1, a2]
             simp [parS]
mutual
theorem Qes (vars : Int) (hv : 0 ≤ vars ∧ vars ≤ 256) : ∀ t : Ty, allTy goodB t = true → VarOK t → allTy tellB (rebT (showF vars) t) = true
 | .mk k n nm ags b, hg, hp => by
   simp only [allTy, Bool.and_eq_true] at hg
   unfold VarOK at hp
   simp only [allTy, Bool.and_eq_true] at hp
   simp only [rebT]
   cases hk : decide (k = 1) with
   | true =>
     have hn := Q1x hp.1 hk
     simp only [Bool.and_eq_true, decide_eq_true_eq] at hn
     rw [cond_true]
     unfold showF
     cases hd : decide (n < vars) with
     | true =>
       have hd' := of_decide_eq_true hd
       have h1000 : n ≤ 1000 := by omega
       simp [tvar, allTy, allTys, tellB, Ty.kind, Ty.n, Ty.name, Ty.args, hn.1, h1000]
     | false =>
       have hd' := of_decide_eq_false hd
       have hkn : (95 :: (letT ((n - vars) % 26) ++ bif decide ((n - vars) / 26 = 0) then [] else Go.Lib.itoa ((n - vars) / 26))) = keptN (n - vars) := rfl
       have ht := (QdA (m := n - vars) (by omega) (by omega)).1
       have hne : ∀ w : Str, w.headD 0 ≠ 95 → decide (keptN (n - vars) = w) = false := fun w hw => decide_eq_false (by rintro e; exact hw (by rw [← e]; rfl))
       rw [hkn]
       show (tellN (keptN (n - vars)) 0 && true) = true
       unfold tellN
       rw [hne [105, 110, 116] (by decide), hne [98, 111, 111, 108] (by decide), hne [117, 110, 105, 116] (by decide), hne [101, 120, 110] (by decide), hne [114, 101, 102] (by decide), hne [45, 62] (by decide), hne [42] (by decide), ht]
       rfl
   | false =>
     obtain ⟨rfl, rfl, -, -⟩ := Q2X hg.1 hk
     have ht := QiH hg.1 hk
     simp only [cond_false, allTy, Qcb vars hv ags hg.2 hp.2, Bool.and_true, tellB, Ty.kind, Ty.n, Ty.name, Ty.args, QbR, ht, hk]
     rfl
theorem Qcb (vars : Int) (hv : 0 ≤ vars ∧ vars ≤ 256) : ∀ l : List Ty, allTys goodB l = true → allTys (varB fun n => decide (0 ≤ n) && decide (n ≤ 9223372036854775807)) l = true → allTys tellB (rebTs (showF vars) l) = true
 | [], _, _ => rfl
 | t :: l, hg, hp => by
   simp only [allTys, Bool.and_eq_true] at hg hp
   simp only [rebTs, allTys, Qes vars hv t hg.1 hp.1, Qcb vars hv l hg.2 hp.2, Bool.and_self]
end
theorem Qi0 (vars n : Int) : (showF vars n).size = 1 := by
 unfold showF
 cases decide (n < vars) <;> rfl
theorem Q95 (vars : Int) (t : Ty) (hp : rightSB vars t = true → VarOK t) : schemeT vars t = show10 vars t := by
 unfold schemeT show10
 cases hr : rightSB vars t with
 | false => rfl
 | true =>
   have hp := hp hr
   obtain ⟨h1, h2⟩ := Q0S hr
   have hg := Q01 h1
   have hs := Q6r h1
   have hz := Q4N (showF vars) (Qi0 vars) t
   have ht : toldB (rebT (showF vars) t) = true := by
    unfold toldB
    rw [Qes vars h2 t hg hp, decide_eq_true (by omega)]; rfl
   have hx := (QbY vars h2.1 t.size t (Nat.le_refl _) hg hp 0 (by decide)).2
   simp only [cond_true, typeT, ht, hx]
   have hle : ∀ u : Ty, decide (levelT u < 0) = false := fun u => by
    unfold levelT
    cases decide (u.kind = 2) && decide (u.name = [45, 62]) <;> cases decide (u.kind = 2) && decide (u.name = [42]) <;> rfl
   unfold at10 parS
   rw [hle]; rfl
end Go.Am
namespace Go.Am
open Go
theorem Q72 (sep : Str) : ∀ (L : List Str) (f : Bool), (joinS sep L f).length ≤ (L.map (·.length)).sum + L.length * sep.length
 | [], _ => by simp [joinS]
 | s :: r, f => by
   have := Q72 sep r false
   cases f <;> simp [joinS, Nat.add_mul] <;> omega
theorem Q7L {n : Int} (h0 : 0 ≤ n) (h : n ≤ 9223372036854775807) : (letT n).length ≤ 22 := by
 unfold letT
 have := Go.Lib.itoa_length_le (n / 26) (by omega) (by omega)
 cases decide (n > 25) <;> simp <;> omega
theorem Q8i {nm : Str} (h : ((givenB nm).2.2 || lowB nm) = true) : nm.length ≤ 32 := by
 cases hl : lowB nm with
 | true =>
   unfold lowB runB at hl
   simp only [Bool.and_eq_true, decide_eq_true_eq] at hl
   exact hl.1.2.2
 | false =>
   rw [hl, Bool.or_false] at h
   unfold givenB at h
   by_cases c1 : nm = [105, 110, 116]
   ·subst c1; decide
   by_cases c2 : nm = [98, 111, 111, 108]
   ·subst c2; decide
   by_cases c3 : nm = [117, 110, 105, 116]
   ·subst c3; decide
   by_cases c4 : nm = [101, 120, 110]
   ·subst c4; decide
   by_cases c5 : nm = [114, 101, 102]
   ·subst c5; decide
   by_cases c6 : nm = [45, 62]
   ·subst c6; decide
   by_cases c7 : nm = [42]
   ·subst c7; decide
   rw [decide_eq_false c1, decide_eq_false c2, decide_eq_false c3, decide_eq_false c4, decide_eq_false c5, decide_eq_false c6, decide_eq_false c7] at h
   cases h
theorem Q2F : ∀ (L : List Str) (i : Nat), (L.getD i []).length ≤ (L.map (·.length)).sum
 | [], i => by simp
 | l :: L, 0 => by simp
 | l :: L, i + 1 => by have := Q2F L i; simp at this ⊢; omega
mutual
theorem Q48 (vars : Int) (hv : 0 ≤ vars) : ∀ t : Ty, allTy goodB t = true → VarOK t → (txt10 vars t).length + 12 ≤ 200 * t.size
 | .mk k n nm ags b, hg, hp => by
   simp only [allTy, Bool.and_eq_true] at hg
   unfold VarOK at hp
   simp only [allTy, Bool.and_eq_true] at hp
   simp only [txt10, Ty.size]
   cases hk : decide (k = 1) with
   | true =>
     have hn := Q1x hp.1 hk
     simp only [Bool.and_eq_true, decide_eq_true_eq] at hn
     rw [cond_true]
     cases hd : decide (n < vars) with
     | true =>
       have := Q7L hn.1 hn.2
       simp only [cond_true, List.length_cons]; omega
     | false =>
       have hd' := of_decide_eq_false hd
       have := Q7L (n := n - vars) (by omega) (by omega)
       simp only [cond_false, List.length_cons]; omega
   | false =>
     obtain ⟨-, -, -, hnm⟩ := Q2X hg.1 hk
     have hs := Q8i hnm
     have h0 := Q42 vars hv 0 ags hg.2 hp.2
     have h1 := Q42 vars hv 1 ags hg.2 hp.2
     have h2 := Q42 vars hv 2 ags hg.2 hp.2
     have hc : ∀ lv, (ats10 vars ags lv).length = ags.length := fun lv => by rw [Q6L, List.length_map]
     have hsz := Ty.len_sizes ags
     rw [cond_false]
     cases decide (ags.length = 0) with
     | true => simp only [cond_true]; omega
     | false =>
       rw [cond_false]
       cases decide (nm = [45, 62]) with
       | true =>
         have a1 := Q2F (ats10 vars ags 1) 0
         have a2 := Q2F (ats10 vars ags 0) 1
         have a3 := Qka vars hv ags hg.2 hp.2
         simp only [cond_true, List.length_append, List.length_cons, List.length_nil]; omega
       | false =>
         rw [cond_false]
         cases decide (nm = [42]) with
         | true =>
           have := Q72 [32, 42, 32] (ats10 vars ags 2) true
           rw [hc, show ([32, 42, 32] : Str).length = 3 from rfl] at this
           simp only [cond_true]; omega
         | false =>
           rw [cond_false]
           cases decide (ags.length = 1) with
           | true =>
             have a1 := Q2F (ats10 vars ags 2) 0
             simp only [cond_true, List.length_append, List.length_cons]; omega
           | false =>
             have := Q72 [44, 32] (ats10 vars ags 0) true
             rw [hc, show ([44, 32] : Str).length = 2 from rfl] at this
             simp only [cond_false, List.length_append, List.length_cons]; omega
theorem Q42 (vars : Int) (hv : 0 ≤ vars) (lv : Int) : ∀ l : List Ty, allTys goodB l = true → allTys (varB fun n => decide (0 ≤ n) && decide (n ≤ 9223372036854775807)) l = true → ((ats10 vars l lv).map (·.length)).sum + 10 * l.length ≤ 200 * Ty.sizes l
 | [], _, _ => by simp [ats10]
 | t :: l, hg, hp => by
   simp only [allTys, Bool.and_eq_true] at hg hp
   have h1 := Q48 vars hv t hg.1 hp.1
   have h2 := Q42 vars hv lv l hg.2 hp.2
   have h3 : (parS (decide (levelT t < lv)) (txt10 vars t)).length ≤ (txt10 vars t).length + 2 := by
    cases decide (levelT t < lv) <;> simp [parS]
   simp only [ats10, List.map_cons, List.sum_cons, List.length_cons, Ty.sizes]
   omega
theorem Qka (vars : Int) (hv : 0 ≤ vars) : ∀ l : List Ty, allTys goodB l = true → allTys (varB fun n => decide (0 ≤ n) && decide (n ≤ 9223372036854775807)) l = true → ((ats10 vars l 1).getD 0 []).length + ((ats10 vars l 0).getD 1 []).length ≤ 200 * Ty.sizes l
 | [], _, _ => by simp [ats10]
 | [t], hg, hp => by
   simp only [allTys, Bool.and_eq_true] at hg hp
   have h1 := Q48 vars hv t hg.1 hp.1
   have h3 : (parS (decide (levelT t < 1)) (txt10 vars t)).length ≤ (txt10 vars t).length + 2 := by
    cases decide (levelT t < 1) <;> simp [parS]
   simp [ats10, Ty.sizes]
   omega
 | t :: u :: l, hg, hp => by
   simp only [allTys, Bool.and_eq_true] at hg hp
   have h1 := Q48 vars hv t hg.1 hp.1
   have h2 := Q48 vars hv u hg.2.1 hp.2.1
   have h3 : (parS (decide (levelT t < 1)) (txt10 vars t)).length ≤ (txt10 vars t).length + 2 := by
    cases decide (levelT t < 1) <;> simp [parS]
   have h4 : (parS (decide (levelT u < 0)) (txt10 vars u)).length ≤ (txt10 vars u).length + 2 := by
    cases decide (levelT u < 0) <;> simp [parS]
   simp [ats10, Ty.sizes]
   omega
end
end Go.Am