/- A part of the proof: SShow6, SSch1, SSch2, SSch3, SSch4, SRef5, SRef8, SRefT1, SRefT2, SRef10c, SArr, SArr2, PTy2, PTy3. -/
import Derived.Test.YtobelgghegmhhaaGreatDoorM6
import Derived.Test.YtobelgghegmhhaaGreatDoorM7
import Derived.Test.YtobelgghegmhhaaGreatDoorM8
import Derived.Test.YtobelgghegmhhaaGreatDoorM9
import Derived.Test.YtobelgghegmhhaaGreatDoorM10
import Derived.Test.YtobelgghegmhhaaGreatDoorM11
import Derived.Lib.IndexMore
set_option linter.unusedVariables false
set_option linter.unusedSimpArgs false
namespace Go.Am
open Go
theorem Q6b {sign : Str} {x : Str} : ∀ {L : List (List Str)} {f : Bool}, x ∈ joinT sign L f → x = sign ∨ ∃ l ∈ L, x ∈ l
 | [], _, h => by simp [joinT] at h
 | l :: r, f, h => by
   simp only [joinT, List.mem_append] at h
   rcases h with h | h
   ·cases f
    ·simp only [cond_false, List.mem_cons] at h
     rcases h with h | h
     ·exact .inl h
     ·exact .inr ⟨l, List.mem_cons_self, h⟩
    ·exact .inr ⟨l, List.mem_cons_self, h⟩
   ·rcases Q6b h with h | ⟨m, h1, h2⟩
    ·exact .inl h
    ·exact .inr ⟨m, List.mem_cons_of_mem _ h1, h2⟩
theorem QcI {b : Bool} {l : List Str} {x : Str} (h : x ∈ parT b l) : x.length ≤ 1 ∨ x ∈ l := by
 cases b
 ·exact .inr h
 ·simp only [parT, cond_true, List.mem_cons, List.mem_append, List.not_mem_nil, or_false] at h
  rcases h with rfl | h | rfl
  ·exact .inl (by simp)
  ·exact .inr h
  ·exact .inl (by simp)
theorem Q7N {L : List (List Str)} {i : Nat} {x : Str} (h : x ∈ L.getD i []) : ∃ l ∈ L, x ∈ l := by
 rw [List.getD_eq_getElem?_getD] at h
 cases hl : L[i]? with
 | none => rw [hl] at h; simp at h
 | some l => rw [hl] at h; exact ⟨l, List.mem_of_getElem? hl, h⟩
theorem Qib {nm : Str} (h : tokB nm = true) : nm.length ≤ 65536 := by
 unfold tokB lxScan at h
 by_cases hl : (nm.length : Int) > 65536
 ·rw [decide_eq_true hl] at h
  simp at h
 ·omega
theorem QgK {nm : Str} {len : Nat} (h : tellN nm len = true) : nm.length ≤ 65536 := by
 unfold tellN at h
 cases h1 : decide (nm = [105, 110, 116]) with
 | true => rw [of_decide_eq_true h1]; simp
 | false =>
   cases h2 : decide (nm = [98, 111, 111, 108]) with
   | true => rw [of_decide_eq_true h2]; simp
   | false =>
     cases h3 : decide (nm = [117, 110, 105, 116]) with
     | true => rw [of_decide_eq_true h3]; simp
     | false =>
       cases h4 : decide (nm = [101, 120, 110]) with
       | true => rw [of_decide_eq_true h4]; simp
       | false =>
         cases h5 : decide (nm = [114, 101, 102]) with
         | true => rw [of_decide_eq_true h5]; simp
         | false =>
           cases h6 : decide (nm = [45, 62]) with
           | true => rw [of_decide_eq_true h6]; simp
           | false =>
             cases h7 : decide (nm = [42]) with
             | true => rw [of_decide_eq_true h7]; simp
             | false =>
               rw [h1, h2, h3, h4, h5, h6, h7] at h
               simp only [Bool.or_self, cond_false, Bool.and_eq_true] at h
               exact Qib h.1
theorem Qfk {t : Ty} (h : tellB t = true) : t.name.length ≤ 65536 := by
 unfold tellB at h
 cases hk : decide (t.kind = 1) with
 | true =>
   rw [hk] at h
   simp only [cond_true, Bool.and_eq_true, decide_eq_true_eq] at h
   rw [h.2.2.1]; simp
 | false =>
   rw [hk] at h
   simp only [cond_false] at h
   cases h2 : (!decide (t.kind = 2) || !decide (t.n = 0)) with
   | true => rw [h2] at h; cases h
   | false => rw [h2] at h; exact QgK h
theorem QgJ {t : Ty} (hk : decide (t.kind = 1) = true) (h : tellB t = true) : 0 ≤ t.n ∧ t.n ≤ 1000 := by
 unfold tellB at h
 rw [hk] at h
 simp only [cond_true, Bool.and_eq_true, decide_eq_true_eq] at h
 exact ⟨h.1, h.2.1⟩
theorem Qch {n : Int} (h0 : 0 ≤ n) (h : n < 2^62) : (letT n).length ≤ 22 := by
 unfold letT
 have := Go.Lib.itoa_length_le (n / 26) (by omega) (by omega)
 cases decide (n > 25) <;> simp <;> omega
mutual
theorem Qdb : ∀ (t : Ty) (lv : Int), allTy tellB t = true → ∀ x ∈ typT t lv, x.length ≤ 65536
 | .mk k n nm ags nl, lv, h, x, hx => by
   simp only [allTy, Bool.and_eq_true] at h
   have hnm := Qfk h.1
   simp only [Ty.name] at hnm
   have hk := QaY ags
   have sub : ∀ lv, (∃ l ∈ typTs ags lv, x ∈ l) → x.length ≤ 65536 := fun lv ⟨l, h1, h2⟩ => hk lv h.2 l h1 x h2
   simp only [typT] at hx
   cases h1 : decide (k = 1) with
   | true =>
     rw [h1] at hx
     simp only [cond_true, List.mem_singleton] at hx
     subst hx
     have ht := QgJ (t := .mk k n nm ags nl) h1 h.1
     simp only [Ty.n] at ht
     have := Qch (n := n) ht.1 (by have := ht.2; omega)
     simp only [List.length_cons]; omega
   | false =>
     rw [h1] at hx
     cases h2 : decide (nm = [45, 62]) with
     | true =>
       rw [h2] at hx
       simp only [cond_true, cond_false] at hx
       rcases QcI hx with hx | hx
       ·omega
       ·simp only [List.mem_append, List.mem_singleton] at hx
        rcases hx with (hx | rfl) | hx
        ·exact sub 1 (Q7N hx)
        ·simp
        ·exact sub 0 (Q7N hx)
     | false =>
       rw [h2] at hx
       cases h3 : decide (nm = [42]) with
       | true =>
         rw [h3] at hx
         simp only [cond_true, cond_false] at hx
         rcases QcI hx with hx | hx
         ·omega
         ·rcases Q6b hx with rfl | hx
          ·simp
          ·exact sub 2 hx
       | false =>
         rw [h3] at hx
         cases h4 : decide (ags.length = 0) with
         | true =>
           rw [h4] at hx
           simp only [cond_true, cond_false, List.mem_singleton] at hx
           subst hx; exact hnm
         | false =>
           rw [h4] at hx
           cases h5 : decide (ags.length = 1) with
           | true =>
             rw [h5] at hx
             simp only [cond_true, cond_false, List.mem_append, List.mem_singleton] at hx
             rcases hx with hx | rfl
             ·exact sub 2 (Q7N hx)
             ·exact hnm
           | false =>
             rw [h5] at hx
             simp only [cond_false, List.mem_append, List.mem_cons, List.not_mem_nil, or_false] at hx
             rcases hx with (rfl | hx | rfl) | rfl
             ·simp
             ·rcases Q6b hx with rfl | hx
              ·simp
              ·exact sub 0 hx
             ·simp
             ·exact hnm
theorem QaY : ∀ (l : List Ty) (lv : Int), allTys tellB l = true → ∀ q ∈ typTs l lv, ∀ x ∈ q, x.length ≤ 65536
 | [], _, _, q, hq, _, _ => by cases hq
 | t :: l, lv, h, q, hq, x, hx => by
   simp only [allTys, Bool.and_eq_true] at h
   simp only [typTs, List.mem_cons] at hq
   rcases hq with rfl | hq
   ·exact Qdb t lv h.1 x hx
   ·exact QaY l lv h.2 q hq x hx
end
theorem QaT {M : Nat} : ∀ {l : List Str}, (∀ x ∈ l, x.length ≤ M) → tokSum l ≤ l.length * (M + 1)
 | [], _ => by simp [tokSum]
 | s :: l, h => by
   have h1 := h s List.mem_cons_self
   have h2 := QaT (l := l) fun x hx => h x (List.mem_cons_of_mem _ hx)
   rw [Q4x, List.length_cons, Nat.add_mul]; omega
end Go.Am
namespace Go.Proofs.YtobelgghegmhhaaGreatDoor
open Go Go.Am
set_option linter.unusedVariables false
set_option maxRecDepth 4000
theorem QdR {t : Ty} (h : tellB t = true) : shpB t = true := by
 unfold tellB at h
 unfold shpB
 cases hk : decide (t.kind = 1) with
 | true =>
   rw [hk] at h
   simp only [cond_true, Bool.and_eq_true, decide_eq_true_eq] at h ⊢
   omega
 | false =>
   rw [hk] at h
   simp only [cond_false] at h ⊢
   cases h2 : (!decide (t.kind = 2) || !decide (t.n = 0)) with
   | true => rw [h2] at h; cases h
   | false =>
     rw [h2] at h
     cases h3 : decide (t.name = [45, 62]) with
     | false => simp
     | true =>
       have hn := of_decide_eq_true h3
       simp only [cond_false, hn] at h
       simpa [tellN] using h
mutual
theorem Qeu : ∀ t : Ty, allTy tellB t = true → allTy shpB t = true
 | .mk k n nm l nl, h => by
   simp only [allTy, Bool.and_eq_true] at h ⊢
   exact ⟨QdR h.1, QcZ l h.2⟩
theorem QcZ : ∀ l : List Ty, allTys tellB l = true → allTys shpB l = true
 | [], _ => rfl
 | t :: l, h => by
   simp only [allTys, Bool.and_eq_true] at h ⊢
   exact ⟨Qeu t h.1, QcZ l h.2⟩
end
theorem Q4R (t : Ty) (s : St) (h : t.size < 2^40) (hn : NamesTy t) : Ret (cw (.f Q2M) [t.enc] s) s (.str (typeT t)) := by
 obtain ⟨s1, m', b, e1, d1, l1, v1, -⟩ := QaV s.locs.length t.size t (Nat.le_refl _) h hn 256 (St.addLoc s (.var [.val (.int .i64 256)])) (by simp [AtL, St.addLoc]) (by decide) (by decide)
 have hb : b = toldB t := by
  unfold toldB
  rw [Bool.eq_iff_iff, d1]
  simp only [Bool.and_eq_true, decide_eq_true_eq]
  constructor <;> rintro ⟨g1, g2⟩ <;> exact ⟨by omega, g2⟩
 subst hb
 have g1 : Grew s s1 := Moves.toGrew (Moves.since (A := []) (h := []) (Moves.grew [] [] ((Grew.refl s).addLoc _)) v1 (fun i hi => .inr (by simp only [List.mem_singleton] at hi; omega)) (by simp))
 rw [QcW]
 simp only [go_sem, Nat.reduceAdd, Nat.reduceLeDiff, Ty.cells_eq, Ty.enc] at e1 ⊢
 unfold typeT
 cases hb : toldB t with
 | false =>
   rw [hb] at e1
   simp only [go_sem, e1]
   exact ⟨s1, rfl, g1⟩
 | true =>
   have hb2 := hb
   unfold toldB at hb2
   simp only [Bool.and_eq_true, decide_eq_true_eq] at hb2
   obtain ⟨y, s2, e2, g2, h2⟩ := Q5C t.size t (Nat.le_refl _) (by omega) (Qeu t hb2.2) 0 s1
   obtain ⟨v, av, hv⟩ := h2.av
   have hl := Q1m t 0
   have hs := QaT (Qdb t 0 hb2.2)
   have hs2 : (typT t 0).length * (65536 + 1) ≤ 1536 * (65536 + 1) := Nat.mul_le_mul_right _ (by omega)
   obtain ⟨s3, e3, g3⟩ := Q9Q (typT t 0) v hv (by omega) s2
   rw [hb] at e1
   simp only [go_sem, Ty.enc, Ty.cells_eq] at e2
   simp only [go_sem, e1, e2, Zm av, e3]
   exact ⟨s3, rfl, (g1.trans g2).trans g3⟩
end Go.Proofs.YtobelgghegmhhaaGreatDoor
namespace Go.Proofs.YtobelgghegmhhaaGreatDoor
open Go Go.Am
set_option linter.unusedVariables false
set_option maxRecDepth 4000
section
variable {σ : Type} (to : Int → σ → Ty × σ) (g : Nat) (caps : List AV) (A : List Nat) (R : σ → List Nat → St → Prop) (P : σ → Prop) (V : Nat)
def rebFn : AV := .fn Zn [.cp [.fn g caps], .vp V 0]
def RbOK (t : Ty) : Prop :=
 ∀ st h s, R st h s → P (chTy to t st).2 → ∃ s' h', cw (.f Zn) [t.enc, .cp [.fn g caps], .vp V 0] s = some (.ret (.val (chTy to t st).1.enc), s') ∧ R (chTy to t st).2 h' s' ∧ Moves A h h' s s'
variable {to g caps A R P V}
theorem Q6p (H : ToOK to g caps A R P) (HV : ∀ st h s, R st h s → s.locs[V]? = some (.var [.val (rebFn g caps V)])) (t : Ty) (hl : t.args.length < 2^28) (s0 : St) (h0 : List Nat) (z : List Slot) (hz : z.length = 4) : ∀ (suf pre B : List Ty) (x : Slot) (st : σ) (h : List Nat) (s : St) (i : Nat), AccH Q3 s0.toks.length h s x (B.map Ty.enc) → Moves A h0 h s0 s → R st h s → P (chTys to suf st).2 → pre ++ suf = t.args → i = pre.length → B.length = pre.length → (∀ t ∈ suf, RbOK to g caps A R P V t) →
  ∃ s' h', Zi (.val (.vp V 0)) z [.val (.int .i64 t.kind), .val (.int .i64 t.n), .val (.str t.name), x] (.val (encS t.nl (t.args.map Ty.enc))) (.val (.int .i64 t.args.length)) (.val (.int .i64 i)) s = some (.ret (.val (Ty.mk t.kind t.n t.name (B ++ (chTys to suf st).1) true).enc), s') ∧ R (chTys to suf st).2 h' s' ∧ Moves A h0 h' s0 s'
 | [], pre, B, x, st, h, s, i, hA, hM, hR, hP, hpre, hi, hn, HC => by
   subst hi
   refine ⟨s, h, ?_, hR, hM⟩
   rw [Q1D]; simp only [go_sem, Nat.reduceAdd, Nat.reduceLeDiff, Qh (by simpa using hpre), Zm hA.av, chTys, hz]
   simp only [Ty.enc]; rw [Ty.cells_mk]
 | u :: suf, pre, B, x, st, h, s, i, hA, hM, hR, hP, hpre, hi, hn, HC => by
   subst hi
   obtain ⟨f1, f2, f3⟩ := Qe (x := .val (encS t.nl (t.args.map Ty.enc))) (Qb _ _) hpre (by omega) (Ty.cells_len u) (by decide)
   have hlen : pre.length < t.args.length := by rw [← hpre]; simp
   simp only [chTys] at hP
   obtain ⟨s1, h1, e1, r1, m1⟩ := HC u List.mem_cons_self st h s hR (Q3l H suf _ hP)
   obtain ⟨x1, s2, e2, a2, m2, l2, t2, b2⟩ := tyAcc (B := [(chTy to u st).1]) (y := .full [(chTy to u st).1.enc]) (hA.move m1) (hM.trans m1) (H.held _ _ _ r1) rfl (by simp only [List.length_singleton]; omega)
   have r2 := H.stab _ _ _ s2 r1 l2 t2
   obtain ⟨s3, h3, e3, r3, m3⟩ := Q6p H HV t hl s0 h0 z hz suf (pre ++ [u]) (B ++ [(chTy to u st).1]) x1 (chTy to u st).2 h1 s2 (pre.length + 1) a2 m2 r2 hP (by simpa using hpre) (by simp) (by simp [hn]) (fun w hw => HC w (List.mem_cons_of_mem _ hw))
   refine ⟨s3, h3, ?_, r3, m3⟩
   have c1 := a2.cellOk
   have q1 := Za (t := C.ti Qg) (off := 0) (HV _ _ _ hR)
   rw [Q1D]; simp only [go_sem, Nat.reduceAdd, Nat.reduceLeDiff, f1, f2, f3, q1, rebFn, e1, e2, c1, chTys] at e3 ⊢
   exact e3
theorem Q4M (H : ToOK to g caps A R P) (HV : ∀ st h s, R st h s → s.locs[V]? = some (.var [.val (rebFn g caps V)])) : ∀ (k : Nat) (t : Ty), t.size ≤ k → WideTy t → RbOK to g caps A R P V t
 | 0, .mk _ _ _ _ _, h, _ => by simp only [Ty.size] at h; omega
 | k + 1, .mk kd n nm l nl, hs, hs' => fun st h s hR hP => by
   simp only [Ty.size] at hs
   have hl := hs'.len
   simp only [chTy] at hP ⊢
   rw [Q5G]
   by_cases hk : kd = 1
   ·rw [decide_eq_true hk, cond_true] at hP
    obtain ⟨s1, h1, e1, r1, m1⟩ := H.call n st h s hR hP
    refine ⟨s1, h1, ?_, by rw [decide_eq_true hk]; exact r1, m1⟩
    simp only [go_sem, Nat.reduceAdd, Nat.reduceLeDiff, Ty.enc, decide_eq_true hk, e1, cond_true]
   ·rw [decide_eq_false hk, cond_false] at hP
    obtain ⟨s1, h1, e1, r1, m1⟩ := Q6p H HV (.mk kd n nm l nl) (by simp only [Ty.args]; omega) s h [.val (.int .i64 0), .val (.int .i64 0), .val (.str []), .val .nils] rfl l [] [] (.val .nils) st h s 0 (.nil _ _ _ _) (.refl _ _ _) hR hP rfl rfl rfl (fun t ht => by
     have := Ty.mem_sizes ht
     exact Q4M H HV k t (by omega) (hs'.arg ht))
    refine ⟨s1, h1, ?_, by rw [decide_eq_false hk]; exact r1, m1⟩
    rw [show ((0 : Nat) : Int) = 0 from rfl] at e1
    simp only [go_sem, Nat.reduceAdd, Nat.reduceLeDiff, Ty.enc, Ty.kind, Ty.n, Ty.name, Ty.args, Ty.nl, decide_eq_false hk, cond_false] at e1 ⊢
    exact e1
end
theorem Q0I (n : Int) (s : St) : cw (.f ZD) [.int .i64 n] s = some (.ret (.val (tvar n).enc), s) := by
 rw [Q6s]
 simp only [go_sem, Nat.reduceAdd, Nat.reduceLeDiff, tvar, Ty.enc]
def restT (n : Int) : Str := bif decide (n = 0) then [] else Go.Lib.itoa n
theorem Q85 (n : Int) (h : -9223372036854775808 ≤ n ∧ n ≤ 9223372036854775807) (s : St) : cw (.f Q33) [.int .i64 n] s = some (.ret (.val (.str (restT n))), s) := by
 have e1 := Qam n h s
 rw [Q9P]
 unfold restT
 cases hn : decide (n = 0) <;> simp only [go_sem, hn, e1]
end Go.Proofs.YtobelgghegmhhaaGreatDoor
namespace Go.Am
open Go
mutual
def rebT (f : Int → Ty) : Ty → Ty
 | .mk k n s l _ => bif decide (k = 1) then f n else .mk k n s (rebTs f l) true
def rebTs (f : Int → Ty) : List Ty → List Ty
 | [] => []
 | t :: l => rebT f t :: rebTs f l
end
def varB (pb : Int → Bool) (u : Ty) : Bool := !decide (u.kind = 1) || pb u.n
mutual
theorem QfU (f : Int → Ty) (pb : Int → Bool) : ∀ (t : Ty) (b : Bool), (chTy (fun n (b : Bool) => (f n, b && pb n)) t b).1 = rebT f t ∧ (b = true → allTy (varB pb) t = true → (chTy (fun n (b : Bool) => (f n, b && pb n)) t b).2 = true)
 | .mk k n s l nl, b => by
   obtain ⟨h1, h2⟩ := Qe8 f pb l b
   simp only [chTy, rebT, allTy, Bool.and_eq_true]
   cases hk : decide (k = 1) with
   | true =>
     refine ⟨rfl, ?_⟩
     rintro rfl ⟨g1, _⟩
     have : varB pb (.mk k n s l nl) = pb n := by unfold varB; rw [show (Ty.mk k n s l nl).kind = k from rfl, hk]; rfl
     rw [this] at g1
     simpa using g1
   | false =>
     refine ⟨by simp only [cond_false, h1], ?_⟩
     rintro rfl ⟨_, g2⟩
     exact h2 rfl g2
theorem Qe8 (f : Int → Ty) (pb : Int → Bool) : ∀ (l : List Ty) (b : Bool), (chTys (fun n (b : Bool) => (f n, b && pb n)) l b).1 = rebTs f l ∧ (b = true → allTys (varB pb) l = true → (chTys (fun n (b : Bool) => (f n, b && pb n)) l b).2 = true)
 | [], b => ⟨rfl, fun h _ => h⟩
 | t :: l, b => by
   obtain ⟨h1, h2⟩ := QfU f pb t b
   obtain ⟨h3, h4⟩ := Qe8 f pb l (chTy (fun n (b : Bool) => (f n, b && pb n)) t b).2
   simp only [chTys, rebTs, allTys, Bool.and_eq_true]
   refine ⟨by rw [h1, h3], ?_⟩
   rintro hb ⟨g1, g2⟩
   exact h4 (h2 hb g1) g2
end
end Go.Am
namespace Go.Proofs.YtobelgghegmhhaaGreatDoor
open Go Go.Am
set_option linter.unusedVariables false
set_option maxRecDepth 4000
theorem Q2v (f : Int → Ty) (pb : Int → Bool) (g : Nat) (caps : List AV) (hx : (C.ext g).isSome = false) (Q : St → Prop) (hQ : ∀ s s', Q s → (∀ (i : Nat) (x : Am.Obj), s.locs[i]? = some x → s'.locs[i]? = some x) → Q s') (hf : ∀ n s, Q s → pb n = true → Ret (cw (.f g) (.int .i64 n :: caps) s) s (f n).enc) (t : Ty) (ht : WideTy t) (hp : allTy (varB pb) t = true) (s : St) (hs : Q s) :
  Ret (cw (.f Q0B) [t.enc, .fn g caps] s) s (rebT f t).enc := by
 let R : Bool → List Nat → St → Prop := fun _ h s1 => h = [] ∧ Q s1 ∧ s1.locs[s.locs.length]? = some (.var [.val (rebFn g caps s.locs.length)])
 have H : ToOK (fun n (b : Bool) => (f n, b && pb n)) g caps [] R (fun b => b = true) := by
  refine ⟨fun n st h s1 hR hP => ?_, ?_, ?_, ?_⟩
  ·obtain ⟨rfl, h2, h3⟩ := hR
   simp only [Bool.and_eq_true] at hP
   obtain ⟨s2, e1, g1⟩ := hf n s1 h2 hP.2
   exact ⟨s2, [], e1, ⟨rfl, hQ _ _ h2 (fun i x => g1.loc), g1.loc h3⟩, .grew _ _ g1⟩
  ·rintro _ _ _ ⟨rfl, _⟩ k hk; cases hk
  ·rintro st h s1 s2 ⟨rfl, h2, h3⟩ hl hk
   exact ⟨rfl, hQ _ _ h2 (fun i x h => by rw [hl]; exact h), by rw [hl]; exact h3⟩
  ·intro n st h
   simp only [Bool.and_eq_true] at h
   exact h.1
 have h0 : (s.addLoc (.var [.val (rebFn g caps s.locs.length)])).locs[s.locs.length]? = some (.var [.val (rebFn g caps s.locs.length)]) := Q41 s _
 have g0 : Grew s (s.addLoc (.var [.val (rebFn g caps s.locs.length)])) := (Grew.refl s).addLoc _
 obtain ⟨c1, c2⟩ := QfU f pb t true
 obtain ⟨s1, h1, e1, ⟨rfl, r2, r3⟩, m1⟩ := Q4M (V := s.locs.length) H (fun _ _ _ h => h.2.2) t.size t (Nat.le_refl _) ht true [] (s.addLoc (.var [.val (rebFn g caps s.locs.length)])) ⟨rfl, hQ _ _ hs (fun i x => g0.loc), h0⟩ (c2 rfl hp)
 rw [c1] at e1
 have q1 := Za (t := C.ti Qg) (off := 0) h0
 rw [Q6W]
 simp only [rebFn] at e1 q1
 simp only [go_sem, Nat.reduceAdd, Nat.reduceLeDiff, Ty.enc, rebFn, q1, e1] at e1 ⊢
 exact ⟨s1, rfl, g0.trans m1.toGrew⟩
theorem Ze (vars : Int) (t : Ty) (s : St) (h : t.size < 2^40) (hn : NamesTy t) : Ret (cw (.f Z7) [.agg (.int .i64 vars :: t.cells)] s) s (.bool (rightTyB t && (decide (vars ≥ 0) && decide (vars ≤ 256)))) := by
 obtain ⟨s1, e1, g1⟩ := Q38 t s h hn
 have c := Ty.cells_eq t
 rw [Q93]
 simp only [go_sem, Nat.reduceAdd, Nat.reduceLeDiff, c, Ty.enc] at e1 ⊢
 cases hr : rightTyB t with
 | false => rw [hr] at e1; simp only [go_sem, e1]; exact ⟨s1, rfl, g1⟩
 | true =>
   rw [hr] at e1
   cases hv : decide (vars ≥ 0) with
   | false => simp only [go_sem, e1, hv]; exact ⟨s1, rfl, g1⟩
   | true => simp only [go_sem, e1, hv]; exact ⟨s1, rfl, g1⟩
end Go.Proofs.YtobelgghegmhhaaGreatDoor
namespace Go.Am
open Go
def showF (vars n : Int) : Ty := bif decide (n < vars) then tvar n else ofTy (95 :: (letT ((n - vars) % 26) ++ bif decide ((n - vars) / 26 = 0) then [] else Go.Lib.itoa ((n - vars) / 26))) []
def rightSB (vars : Int) (t : Ty) : Bool := rightTyB t && (decide (vars ≥ 0) && decide (vars ≤ 256))
def schemeT (vars : Int) (t : Ty) : Str := bif rightSB vars t then typeT (rebT (showF vars) t) else []
theorem Qfw {n : Int} (h0 : 0 ≤ n) (h : n ≤ 1000) : typeT (tvar n) = 39 :: letT n := by
 have h1 : toldB (tvar n) = true := by
  simp [toldB, tvar, allTy, allTys, tellB, Ty.size, Ty.sizes, Ty.kind, Ty.n, Ty.name, Ty.args, h0, h]
 unfold typeT
 rw [h1]
 simp [tvar, typT, textB, textGo, sepB]
mutual
theorem Q1Z (f : Int → Ty) (hf : ∀ n, (f n).size = 1) : ∀ t : Ty, (rebT f t).size ≤ t.size
 | .mk k n s l b => by
   have := Q8W f hf l
   simp only [rebT]
   cases decide (k = 1) with
   | true => simp only [cond_true, hf, Ty.size]; omega
   | false => simp only [cond_false, Ty.size]; omega
theorem Q8W (f : Int → Ty) (hf : ∀ n, (f n).size = 1) : ∀ l : List Ty, Ty.sizes (rebTs f l) ≤ Ty.sizes l
 | [] => by simp [rebTs, Ty.sizes]
 | t :: l => by
   have h1 := Q1Z f hf t
   have h2 := Q8W f hf l
   simp only [rebTs, Ty.sizes]; omega
end
end Go.Am
namespace Go.Proofs.YtobelgghegmhhaaGreatDoor
open Go Go.Am
set_option linter.unusedVariables false
set_option maxRecDepth 4000
theorem QgM (a b : Str) (h : b.length ≤ a.length) (hp : a.take b.length = b) (s : St) : cw (.f Q0C) [.str a, .str b] s = some (.ret (.val (.str (a.drop b.length))), s) := by
 have hb' : decide ((a.length : Int) ≥ (b.length : Int)) = true := by simpa using h
 have h0 : cw (.f Qx) [.str a, .str b] s = some (.ret (.val (.bool true)), s) := by
  rw [ZN]
  simp only [go_sem, hb', Q2Y Qi h, hp, decide_true]
 have h1 : cw (.f QZ) [.str a, .str b] s = some (.ret (.val (.str (a.drop b.length))), s) := by
  rw [Q1z]
  simp only [go_sem, h0, Q7s Qi h]
 rw [Q4V]
 simp only [go_sem, h1]
theorem Qfc (vars n : Int) : (showF vars n).size = 1 := by
 unfold showF
 cases decide (n < vars) <;> rfl
theorem Qfo (n : Int) : NamesTy (tvar n) := by
 intro nd hn
 simp only [tvar, nodesTy, nodesTys, List.mem_singleton] at hn
 subst hn
 show ([] : Str).length < 2^40
 decide
theorem Q6r (vars : Int) (t : Ty) (hv : 0 ≤ vars ∧ vars ≤ 256) (n : Int) (hn : 0 ≤ n ∧ n ≤ 9223372036854775807) (s : St) : Ret (cw (.f Q14) [.int .i64 n, .cp (.int .i64 vars :: t.cells)] s) s (showF vars n).enc := by
 rw [Q83]
 unfold showF
 cases hd : decide (n < vars) with
 | true =>
   have e1 := Q0I n s
   simp only [go_sem, Int.reduceEq, Nat.reduceAdd, Nat.reduceLeDiff, ne_eq, not_false_eq_true, hd, e1, Ty.enc, tvar]
   exact Ret.same _ _
 | false =>
   have hd' := of_decide_eq_false hd
   have w1 : IntKind.i64.wrap (n - vars) = n - vars := wrap64 (by omega) (by omega)
   have a1 : (n - vars).tmod 26 = (n - vars) % 26 := Int.tmod_eq_emod_of_nonneg (by omega)
   have a2 : (n - vars).tdiv 26 = (n - vars) / 26 := Int.tdiv_eq_ediv_of_nonneg (by omega)
   have w2 : IntKind.i64.wrap ((n - vars) / 26) = (n - vars) / 26 := wrap64 (by omega) (by omega)
   have e1 := fun s => Q0I ((n - vars) % 26) s
   obtain ⟨s1, e2, g1⟩ := Q4R (tvar ((n - vars) % 26)) s (show (1 : Nat) < 2^40 by decide) (Qfo _)
   rw [Qfw (by omega) (by omega)] at e2
   have e3 := QgM (39 :: letT ((n - vars) % 26)) [39] (by simp) rfl s1
   have e4 := Q85 ((n - vars) / 26) (by omega) s1
   have k1 := Qch (n := (n - vars) % 26) (by omega) (by omega)
   have k2 : (restT ((n - vars) / 26)).length ≤ 21 := by
    unfold restT
    have := Go.Lib.itoa_length_le ((n - vars) / 26) (by omega) (by omega)
    cases decide ((n - vars) / 26 = 0) <;> simp <;> omega
   obtain ⟨s2, e5, g2⟩ := Qfp (95 :: (letT ((n - vars) % 26) ++ restT ((n - vars) / 26))) [] .nils rfl (by decide) (by intro t ht; cases ht) s1
   rw [show ((39 :: letT ((n - vars) % 26)) : Str).drop ([39] : Str).length = letT ((n - vars) % 26) from rfl] at e3
   have b1 : binS (C.ti Q2) .add (.val (.str [95])) (.val (.str (letT ((n - vars) % 26)))) = some (.val (.str (95 :: letT ((n - vars) % 26)))) := Q6M (by simp; omega)
   have b2 : binS (C.ti Q2) .add (.val (.str (95 :: letT ((n - vars) % 26)))) (.val (.str (restT ((n - vars) / 26)))) = some (.val (.str (95 :: (letT ((n - vars) % 26) ++ restT ((n - vars) / 26))))) := Q6M (by simp; omega)
   simp only [Ty.enc, ofTy, List.map_nil] at e1 e2 e5
   simp only [go_sem, Int.reduceEq, Nat.reduceAdd, Nat.reduceLeDiff, ne_eq, not_false_eq_true, hd, w1, a1, a2, w2, e1, e2, e3, e4, b1, b2, e5]
   refine ⟨s2, ?_, g1.trans g2⟩
   rfl
theorem Q84 (vars : Int) (t : Ty) (s : St) (h : t.size < 2^28) (hn : NamesTy t) (hw : WideTy t) (hN : NamesTy (rebT (showF vars) t)) (hp : allTy (varB fun n => decide (0 ≤ n) && decide (n ≤ 9223372036854775807)) t = true) :
  Ret (cw (.f Q1N) [.agg (.int .i64 vars :: t.cells)] s) s (.str (schemeT vars t)) := by
 obtain ⟨s1, e1, g1⟩ := Ze vars t s (by omega) hn
 have c := Ty.cells_eq t
 rw [Q4P]
 unfold schemeT
 change cw _ _ _ = some (.ret (.val (.bool (rightSB vars t))), s1) at e1
 cases hr : rightSB vars t with
 | false =>
   rw [hr] at e1
   simp only [go_sem, Nat.reduceAdd, Nat.reduceLeDiff, c] at e1 ⊢
   simp only [go_sem, e1]
   exact ⟨s1, rfl, g1⟩
 | true =>
   rw [hr] at e1
   unfold rightSB at hr
   simp only [Bool.and_eq_true, decide_eq_true_eq] at hr
   have hsz := Q1Z (showF vars) (Qfc vars) t
   obtain ⟨s2, e2, g2⟩ := Q2v (showF vars) (fun n => decide (0 ≤ n) && decide (n ≤ 9223372036854775807)) Q14 [.cp (.int .i64 vars :: t.cells)] (by kernel_rfl) (fun _ => True) (fun _ _ _ _ => trivial)
    (fun n s _ hb => Q6r vars t hr.2 n (by simpa using hb) s) t hw hp s1 trivial
   obtain ⟨s3, e3, g3⟩ := Q4R (rebT (showF vars) t) s2 (by omega) hN
   simp only [go_sem, Nat.reduceAdd, Nat.reduceLeDiff, c, Ty.enc] at e1 e2 e3 ⊢
   simp only [go_sem, e1, e2, e3]
   exact ⟨s3, rfl, (g1.trans g2).trans g3⟩
end Go.Proofs.YtobelgghegmhhaaGreatDoor
namespace Go.Am
open Go
def zeroTy : Ty := .mk 0 0 [] [] true
def instT (vars : Int) (t : Ty) (l : List Ty) : Ty × Int :=
 bif !rightSB vars t || (!decide ((l.length : Int) = vars) || !l.all rightTyB) then (zeroTy, 1)
 else bif decide ((putTy t l).size > 256) then (zeroTy, 4) else (putTy t l, 0)
end Go.Am
namespace Go.Proofs.YtobelgghegmhhaaGreatDoor
open Go Go.Am
set_option linter.unusedVariables false
set_option maxRecDepth 4000
theorem Qak (l : List Ty) (x : Slot) (hx : x.list? = some (l.map Ty.enc)) (hl : l.length < 2^40) (hn : ∀ t ∈ l, t.size < 2^40 ∧ NamesTy t) : ∀ (suf pre : List Ty) (s : St) (i : Nat), pre ++ suf = l → i = pre.length →
  ∃ s' r, Qq x (.val (.fn Zt [])) (.val (.int .i64 l.length)) (.val (.int .i64 i)) s = some (.ret (.val (.int .i64 r)), s') ∧ (decide (r ≥ 0) = !suf.all rightTyB) ∧ Grew s s'
 | [], pre, s, i, h, hi => by
   subst hi
   refine ⟨s, -1, ?_, rfl, .refl s⟩
   rw [Qr]; simp only [go_sem, Int.reduceNeg, Qh (by simpa using h)]
 | t :: suf, pre, s, i, h, hi => by
   subst hi
   obtain ⟨f1, f2, f3⟩ := Qe hx h (by omega) (Ty.cells_len t) (by decide)
   obtain ⟨h1, h2⟩ := hn t (by rw [← h]; simp)
   obtain ⟨s1, e1, g1⟩ := Q38 t s h1 h2
   have e2 : cw (.f Zt) [t.enc] s = some (.ret (.val (.bool (!rightTyB t))), s1) := by
    rw [Q80]
    simp only [go_sem, Nat.reduceLeDiff, e1]
   rw [Qr]
   simp only [go_sem, Int.reduceNeg, Nat.reduceLeDiff, f1, f2, f3, e2]
   cases hr : rightTyB t with
   | true =>
     obtain ⟨s2, r, e3, d3, g3⟩ := Qak l x hx hl hn suf (pre ++ [t]) s1 (pre.length + 1) (by simpa using h) (by simp)
     exact ⟨s2, r, by simp only [go_sem, e3], by rw [d3, List.all_cons, hr, Bool.true_and], g1.trans g3⟩
   | false =>
     refine ⟨s1, pre.length, by simp only [go_sem], ?_, g1⟩
     rw [List.all_cons, hr]
     simp
theorem Q1T (vars : Int) (t : Ty) (l : List Ty) (nl : Bool) (s : St) (h : t.size < 2^28) (hn : NamesTy t) (hw : WideTy t) (hl : l.length < 2^28) (hls : ∀ u ∈ l, u.size < 2^40 ∧ NamesTy u ∧ WideTy u) (hz : (putTy t l).size < 2^40) :
  Ret (cw (.f Q0K) [.agg (.int .i64 vars :: t.cells), encS nl (l.map Ty.enc)] s) s (.tup [(instT vars t l).1.enc, .int .i64 (instT vars t l).2]) := by
 obtain ⟨s1, e1, g1⟩ := Ze vars t s (by omega) hn
 have c := Ty.cells_eq t
 change cw _ _ _ = some (.ret (.val (.bool (rightSB vars t))), s1) at e1
 have z1 : ∀ k : Int, ∀ s' : St, Grew s s' → Ret (some (.ret (.val (.tup [zeroTy.enc, .int .i64 k])), s')) s (.tup [zeroTy.enc, .int .i64 k]) := fun k s' g => ⟨s', rfl, g⟩
 rw [Q9L]
 unfold instT
 cases hr : rightSB vars t with
 | false =>
   rw [hr] at e1
   simp only [go_sem, Nat.reduceAdd, Nat.reduceLeDiff, c] at e1 ⊢
   simp only [go_sem, e1, Qb]
   exact z1 1 s1 g1
 | true =>
   rw [hr] at e1
   cases hv : decide ((l.length : Int) = vars) with
   | false =>
     simp only [go_sem, Nat.reduceAdd, Nat.reduceLeDiff, c] at e1 ⊢
     simp only [go_sem, e1, Qb, List.length_map, hv]
     exact z1 1 s1 g1
   | true =>
     obtain ⟨s2, r, e2, d2, g2⟩ := Qak l (.val (encS nl (l.map Ty.enc))) (Qb _ _) (by omega) (fun u hu => ⟨(hls u hu).1, (hls u hu).2.1⟩) l [] s1 0 rfl rfl
     have e4 : cw (.f Ql) [encS nl (l.map Ty.enc), .fn Zt []] s1 = some (.ret (.val (.bool (decide (r ≥ 0)))), s2) := by
      rw [Zg]
      have : cw (.f QJ) [encS nl (l.map Ty.enc), .fn Zt []] s1 = some (.ret (.val (.int .i64 r)), s2) := by
       rw [ZC]; simp only [go_sem]
       exact e2
      simp only [go_sem, this]
     rw [d2] at e4
     cases ha : l.all rightTyB with
     | false =>
       rw [ha] at e4
       simp only [go_sem, Nat.reduceAdd, Nat.reduceLeDiff, c] at e1 ⊢
       simp only [go_sem, e1, Qb, List.length_map, hv, e4]
       exact z1 1 s2 (g1.trans g2)
     | true =>
       rw [ha] at e4
       obtain ⟨s3, e5, g3⟩ := QdW t l nl s2 hw (by omega) (fun u hu => (hls u hu).2.2)
       have e6 := Q6F (putTy t l).size (putTy t l) s3 (Nat.le_refl _) hz
       have cp := Ty.cells_eq (putTy t l)
       simp only [go_sem, Nat.reduceAdd, Nat.reduceLeDiff, c, cp, Ty.enc] at e1 e5 e6 ⊢
       simp only [go_sem, Nat.reduceAdd, Nat.reduceLeDiff, e1, Qb, List.length_map, hv, e4, e5, e6]
       have hg : decide (((putTy t l).size : Int) > 256) = decide ((putTy t l).size > 256) := by
        by_cases hq : (putTy t l).size > 256
        ·rw [decide_eq_true hq, decide_eq_true (by omega)]
        ·rw [decide_eq_false hq, decide_eq_false (by omega)]
       cases hc : decide ((putTy t l).size > 256) with
       | true =>
         rw [hc] at hg
         simp only [go_sem, hg]
         exact z1 4 s3 ((g1.trans g2).trans g3)
       | false =>
         rw [hc] at hg
         simp only [go_sem, hg]
         refine ⟨s3, ?_, (g1.trans g2).trans g3⟩
         simp only [Bool.not_true, Bool.or_self, cond_false, Ty.enc, cp]
end Go.Proofs.YtobelgghegmhhaaGreatDoor
namespace Go.Proofs.YtobelgghegmhhaaGreatDoor
open Go Go.Am
set_option linter.unusedVariables false
set_option maxRecDepth 4000
abbrev Nodes (r : Res) (s : St) (l : List TNode) : Prop := RetA r Qn s (l.map TNode.enc)
abbrev NAcc (s0 s : St) (x : Slot) (l : List TNode) : Prop := AccR Qn s0 s x (l.map TNode.enc)
theorem nacc {s0 s : St} {x y : Slot} {A B : List TNode} (h : NAcc s0 s x A) (hy : y.list? = some (B.map TNode.enc)) (b : A.length + B.length < 2^30) : ∃ x' s', appendS Qn (C.ti Qn) s x y = some (x', s') ∧ NAcc s0 s' x' (A ++ B) :=
 AccR.appendF h hy (fun a => by rw [Q39]; exact TNode.cells_len a) (by rw [Q39]; decide) b (by rw [Q5O]; decide)
theorem Q4c (a : Int) (t : Ty) (hl : t.args.length < 2^40) (s0 : St) : ∀ (suf pre : List Ty) (A : List TNode) (x : Slot) (s : St) (i : Nat), NAcc s0 s x A → pre ++ suf = t.args → i = pre.length → (∀ t ∈ suf, ∀ s, Nodes (cw (.f ZT) [t.enc, .int .i64 a] s) s (nodesTy a t)) → A.length + Ty.sizes suf < 2^30 →
  Nodes (Q0P (.val (.int .i64 a)) (t.cells.map .val) x (.val (.int .i64 i)) s) s0 (A ++ nodesTys a suf)
 | [], pre, A, x, s, i, hx, h, hi, H, hb => by
   subst hi
   rw [Q3O]; simp only [go_sem, Nat.reduceAdd, Nat.reduceLeDiff, Ty.cells_eq, Qh (by simpa using h), nodesTys]
   exact RetA.mk hx
 | u :: suf, pre, A, x, s, i, hx, h, hi, H, hb => by
   subst hi
   obtain ⟨f1, f2, f3⟩ := Qe (x := .val (encS t.nl (t.args.map Ty.enc))) (Qb _ _) h (by omega) (Ty.cells_len u) (by decide)
   obtain ⟨y, s1, e1, g1⟩ := H u (List.mem_cons_self) s
   have hlen := Q4t a u
   simp only [Ty.sizes] at hb
   obtain ⟨x', s2, e2, g2⟩ := nacc (hx.move g1.grew) g1.list? (by omega)
   have := Q4c a t hl s0 suf (pre ++ [u]) (A ++ nodesTy a u) x' s2 (pre.length + 1) g2 (by simpa using h) (by simp) (fun w hw => H w (List.mem_cons_of_mem _ hw)) (by rw [List.length_append]; omega)
   rw [Q3O]; rw [Ty.cells_eq] at this ⊢; simp only [go_sem, Nat.reduceAdd, Nat.reduceLeDiff, f1, f2, f3, e1, e2] at this ⊢
   simp only [nodesTys]
   exact this
theorem Q4d : ∀ (m : Nat) (a : Int) (t : Ty) (s : St), t.size ≤ m → t.size < 2^28 → Nodes (cw (.f ZT) [t.enc, .int .i64 a] s) s (nodesTy a t)
 | 0, a, .mk _ _ _ _ _, _, h, _ => by simp only [Ty.size] at h; omega
 | m + 1, a, .mk k n nm l nl, s, h, h' => by
   simp only [Ty.size] at h h'
   have hl := Ty.len_sizes l
   have := Q4c a (.mk k n nm l nl) (by simp only [Ty.args]; omega) s l [] [.ty (.mk k n nm l nl) a] (.full [(TNode.ty (.mk k n nm l nl) a).enc]) s 0 (AccR.full _ _ _) rfl rfl (fun u hu s => by have := Ty.mem_sizes hu; exact Q4d m a u s (by omega) (by omega)) (by simp only [List.length_singleton]; omega)
   rw [Qbf]; simp only [go_sem, Nat.reduceAdd, Nat.reduceLeDiff, Ty.enc, TNode.cells, Dec.zero, Exp.zero, Pat.zero, Fun.zero, Case.zero, Con.zero, Ty.zero, Con.cells, TNode.enc, nodesTy] at this ⊢
   exact this
end Go.Proofs.YtobelgghegmhhaaGreatDoor
namespace Go.Am
open Go
@[go_sem] theorem Qsa (b : Bool) (sz : Nat) (x : Slot) (r : List Slot) : gd b (fullO (bslS sz (gdV b x :: r))) = gd b (fullO (bslS sz (x :: r))) := by cases b <;> rfl
end Go.Am
namespace Go.Proofs.YtobelgghegmhhaaGreatDoor
open Go Go.Am
set_option linter.unusedVariables false
set_option maxRecDepth 4000
theorem Qjo {α : Type} {L M pre pre' suf' : List α} (h : pre ++ [] = L) (g : pre' ++ suf' = M) (hp : pre'.length = pre.length) (he : M.length = L.length) : suf' = [] := by
 have h1 := congrArg List.length h
 have h2 := congrArg List.length g
 simp only [List.length_append, List.length_nil] at h1 h2
 exact List.eq_nil_of_length_eq_zero (by omega)
theorem Qi5 {α : Type} {L M pre pre' suf suf' : List α} {t : α} (h : pre ++ t :: suf = L) (g : pre' ++ suf' = M) (hp : pre'.length = pre.length) (he : M.length = L.length) : ∃ u r, suf' = u :: r := by
 have h1 := congrArg List.length h
 have h2 := congrArg List.length g
 simp only [List.length_append, List.length_cons] at h1 h2
 cases suf' with
 | nil => simp only [List.length_nil] at h2; omega
 | cons u r => exact ⟨u, r, rfl⟩
def RSameTy (t : Ty) : Prop := ∀ u s, cw (.f Q0i) [t.enc, u.enc] s = some (.ret (.val (.bool (eqTy t u))), s)
theorem Q5B (t u : Ty) (hl : t.args.length < 2^40) (he : u.args.length = t.args.length) : ∀ (suf suf' pre pre' : List Ty) (s : St) (i : Nat), pre ++ suf = t.args → pre' ++ suf' = u.args → i = pre.length → pre'.length = pre.length → (∀ t ∈ suf, RSameTy t) →
  Q05 (t.cells.map .val) (u.cells.map .val) (.val (.int .i64 i)) s = some (.ret (.val (.bool (eqTys suf suf'))), s)
 | [], suf', pre, pre', s, i, h, g, hi, hp, H => by
   subst hi
   obtain rfl := Qjo h g hp he
   rw [Q2W]; simp only [go_sem, Nat.reduceAdd, Nat.reduceLeDiff, Ty.cells_eq, Qh (by simpa using h), eqTys]
 | x :: suf, suf', pre, pre', s, i, h, g, hi, hp, H => by
   subst hi
   obtain ⟨y, suf', rfl⟩ := Qi5 h g hp he
   obtain ⟨f1, f2, f3⟩ := Qe (x := .val (encS t.nl (t.args.map Ty.enc))) (Qb _ _) h (by omega) (Ty.cells_len x) (by decide)
   obtain ⟨-, g2, -⟩ := Qe (x := .val (encS u.nl (u.args.map Ty.enc))) (Qb _ _) g (by omega) (Ty.cells_len y) (by decide)
   rw [hp] at g2
   have e1 := H x (List.mem_cons_self) y s
   have ih := Q5B t u hl he suf suf' (pre ++ [x]) (pre' ++ [y]) s (pre.length + 1) (by simpa using h) (by simpa using g) (by simp) (by simp [hp]) (fun w hw => H w (List.mem_cons_of_mem _ hw))
   rw [Q2W]; rw [Ty.cells_eq, Ty.cells_eq] at ih ⊢; simp only [go_sem, Nat.reduceAdd, Nat.reduceLeDiff, f1, f2, f3, g2, e1] at ih ⊢
   simp only [go_sem, ih, eqTys]
   cases eqTy x y <;> rfl
theorem Q6q : ∀ (m : Nat) (t : Ty), t.size ≤ m → t.size < 2^40 → RSameTy t
 | 0, .mk _ _ _ _ _, h, _ => by simp only [Ty.size] at h; omega
 | m + 1, .mk k n nm l nl, h, h' => fun u s => by
   obtain ⟨k', n', nm', l', nl'⟩ := u
   simp only [Ty.size] at h h'
   have hl := Ty.len_sizes l
   rw [Q8Y]
   by_cases he : l'.length = l.length
   ·have e1 := Q5B (.mk k n nm l nl) (.mk k' n' nm' l' nl') (by simp only [Ty.args]; omega) he l l' [] [] s 0 rfl rfl rfl rfl (fun t ht => by have := Ty.mem_sizes ht; exact Q6q m t (by omega) (by omega))
    simp only [go_sem] at e1
    rw [show ((0 : Nat) : Int) = 0 from rfl] at e1
    simp only [go_sem, Nat.reduceAdd, Nat.reduceLeDiff, Ty.enc, e1, eqTy, decide_eq_true (show ((l.length : Int) = l'.length) by omega)]
    generalize decide (k = k') = b1
    generalize decide (n = n') = b2
    generalize decide (nm = nm') = b3
    cases b1 <;> cases b2 <;> cases b3 <;> rfl
   ·simp only [go_sem, Nat.reduceAdd, Nat.reduceLeDiff, Ty.enc, eqTy, Q46 l l' (fun h => he h.symm), decide_eq_false (show ¬ ((l.length : Int) = l'.length) by omega)]
end Go.Proofs.YtobelgghegmhhaaGreatDoor
namespace Go.Am
open Go
def RetH (r : Res) (e : TypeId) (s : St) (l : List AV) : Prop := ∃ x s', r = some (.ret x, s') ∧ AccH e s.toks.length [] s' x l ∧ Grew s s'
end Go.Am
namespace Go.Proofs.YtobelgghegmhhaaGreatDoor
open Go Go.Am
set_option linter.unusedVariables false
set_option maxRecDepth 4000
def tnd (u : Ty) : AV := (TNode.ty u 0).enc
theorem Qjp (u : Ty) : (tnd u).cells.length = 47 := TNode.cells_len (.ty u 0)
theorem QhK (t : Ty) (s : St) (h : t.size < 2^28) : RetA (cw (.f ZT) [t.enc, .int .i64 0] s) Qn s ((preTy t).map tnd) := by
 have := Q4d _ 0 t s (Nat.le_refl _) h
 unfold Nodes at this
 rw [Q2O, List.map_map] at this
 exact this
theorem Q8Z (t u : Ty) (s : St) (h : t.size < 2^40) : cw (.f Q3C) [t.enc, u.enc] s = some (.ret (.val (.bool (eqTy t u))), s) := by
 have e1 := Q6q _ t (Nat.le_refl _) h u s
 rw [Qbg]
 simp only [go_sem, Nat.reduceLeDiff, Ty.enc] at e1 ⊢
 simp only [go_sem, Nat.reduceAdd, Nat.reduceLeDiff, e1]
theorem Q4N (n : Int) (L : List Int) (x : Slot) (hx : x.list? = some (L.map ekI)) (hl : L.length < 2^40) : ∀ (suf pre : List Int) (s : St) (i : Nat), pre ++ suf = L → i = pre.length →
  Q0t x (.val (.int .i64 n)) (.val (.int .i64 i)) s = some (.ret (.val (.int .i64 (match placeI n suf i with | some j => (j : Int) | none => -1))), s)
 | [], pre, s, i, h, hi => by
   subst hi
   rw [Q3c]; simp only [go_sem, Int.reduceNeg, hx, Qh (by simpa using h)]; rfl
 | m :: suf, pre, s, i, h, hi => by
   subst hi
   obtain ⟨f1, f2, f3⟩ := Qe (f := ekI) (sz := 1) hx h (by omega) rfl (by decide)
   have ih := Q4N n L x hx hl suf (pre ++ [m]) s (pre.length + 1) (by simpa using h) (by simp)
   rw [Q3c]
   simp only [ekI] at f2
   simp only [go_sem, Int.reduceNeg, Nat.reduceAdd, Nat.reduceLeDiff, hx, f1, f2, f3, ih, placeI]
   by_cases he : m = n
   ·simp [he, ifR]
   ·simp [he, Ne.symm he, ifR]
theorem Q7Z (n : Int) (L : List Int) (v : AV) (hv : (Slot.val v).list? = some (L.map ekI)) (hl : L.length < 2^40) (s : St) : cw (.f Q1L) [v, .int .i64 n] s = some (.ret (.val (.int .i64 (placeR n L))), s) := by
 have := Q4N n L (.val v) hv hl L [] s 0 rfl rfl
 rw [Q9J]; exact this
end Go.Proofs.YtobelgghegmhhaaGreatDoor
namespace Go.Proofs.YtobelgghegmhhaaGreatDoor
open Go Go.Am
set_option linter.unusedVariables false
set_option maxRecDepth 4000
theorem intAcc {A0 h0 h : List Nat} {s0 s : St} {x y : Slot} {A B : List Int} (a : AccH Q1 s0.toks.length h s x (A.map ekI)) (M : Moves A0 h0 h s0 s) (hh : ∀ k ∈ h, k < s.toks.length) (hy : y.list? = some (B.map ekI)) (b : A.length + B.length < 2^30) :
  ∃ x' s', appendS Q1 (C.ti Q1) s x y = some (x', s') ∧ AccH Q1 s0.toks.length h s' x' ((A ++ B).map ekI) ∧ Moves A0 h0 h s0 s' ∧ s'.locs = s.locs ∧ (∀ k ∈ h, s'.toks[k]? = s.toks[k]?) ∧ (∀ k ∈ h, k < s'.toks.length) :=
 AccH.appendF a M hh hy (fun a => by rw [Q1t]; rfl) (by rw [Q1t]; decide) b (by rw [Q70]; decide)
theorem Qb0 : ∀ (l : List Ty) (acc : List Int), (varsL l acc).length ≤ acc.length + l.length
 | [], acc => Nat.le_refl _
 | u :: l, acc => by
   simp only [varsL, List.length_cons]
   have := Qb0 l (bif decide (u.kind = 1) && decide (placeR u.n acc < 0) then acc ++ [u.n] else acc)
   cases h : (decide (u.kind = 1) && decide (placeR u.n acc < 0)) <;> rw [h] at this <;> simp only [cond_true, cond_false, List.length_append, List.length_singleton] at this ⊢ <;> omega
theorem Q35 (L : List Ty) (y : Slot) (hy : y.list? = some (L.map tnd)) (hl : L.length < 2^28) (s0 : St) : ∀ (suf pre : List Ty) (A : List Int) (x : Slot) (s : St) (i : Nat), AccH Q1 s0.toks.length [] s x (A.map ekI) → Moves [] [] [] s0 s → pre ++ suf = L → i = pre.length → A.length ≤ pre.length →
  RetH (ZX x y (.val (.int .i64 i)) s) Q1 s0 ((varsL suf A).map ekI)
 | [], pre, A, x, s, i, hA, hM, h, hi, hn => by
   subst hi
   rw [Q3P]; simp only [go_sem, hy, Qh (by simpa using h), varsL]
   exact ⟨_, _, rfl, hA, hM.toGrew⟩
 | t :: suf, pre, A, x, s, i, hA, hM, h, hi, hn => by
   subst hi
   obtain ⟨f1, f2, f3⟩ := Qe hy h (by omega) (Qjp t) (by decide)
   have hlen : pre.length < L.length := by rw [← h]; simp
   have e1 := Q7Z t.n A (encS true (A.map ekI)) (Qb _ _) (by omega) s
   rw [Q3P]
   simp only [go_sem, Nat.reduceAdd, Nat.reduceLeDiff, Nat.reduceSub, hy, f1, f2, f3, tnd, TNode.enc, TNode.cells, Dec.cells_len, Exp.cells_len, Pat.cells_len, Ty.cells_eq, Zm hA.av, e1, varsL]
   cases (decide (t.kind = 1) && decide (placeR t.n A < 0)) with
   | true =>
     obtain ⟨x1, s1, e2, a2, m2, -, -, -⟩ := intAcc (A0 := []) (h0 := []) (h := []) (s0 := s0) (B := [t.n]) (y := .full [.int .i64 t.n]) hA hM (by simp) rfl (by simp only [List.length_singleton]; omega)
     simp only [go_sem, e2, cond_true]
     exact Q35 L y hy hl s0 suf (pre ++ [t]) (A ++ [t.n]) x1 s1 (pre.length + 1) a2 m2 (by simpa using h) (by simp) (by simp; omega)
   | false =>
     simp only [go_sem, cond_false]
     exact Q35 L y hy hl s0 suf (pre ++ [t]) A x s (pre.length + 1) hA hM (by simpa using h) (by simp) (by simp; omega)
theorem AccH.weaken {e : TypeId} {b b' : Nat} {h : List Nat} {s : St} {x : Slot} {l : List AV} (a : AccH e b h s x l) (hb : b' ≤ b) : AccH e b' h s x l := by
 rcases a.is with hx | hx | ⟨k, hx, h1, h2, h3⟩
 ·exact ⟨.inl hx⟩
 ·exact ⟨.inr (.inl hx)⟩
 ·exact ⟨.inr (.inr ⟨k, hx, h1, by omega, h3⟩)⟩
theorem RetH.after {r : Res} {e : TypeId} {s s0 : St} {l : List AV} (h : RetH r e s l) (g : Grew s0 s) : RetH r e s0 l := by
 obtain ⟨x, s', h1, h2, h3⟩ := h
 exact ⟨x, s', h1, AccH.weaken h2 g.toksLe, g.trans h3⟩
theorem Q90 (t : Ty) (s : St) (h : t.size < 2^28) : RetH (cw (.f Q27) [t.enc] s) Q1 s ((varsTyR t).map ekI) := by
 obtain ⟨x, s1, e1, a1⟩ := QhK t s h
 have e2 := Q35 (preTy t) x a1.list? (by rw [Q6o]; omega) s1 (preTy t) [] [] (.val .nils) s1 0 (.nil _ _ _ _) (.refl _ _ _) rfl rfl (Nat.le_refl _)
 rw [show ((0 : Nat) : Int) = 0 from rfl] at e2
 rw [Qbh]
 simp only [go_sem, Nat.reduceLeDiff, Ty.enc] at e1 ⊢
 simp only [go_sem, e1]
 exact RetH.after e2 a1.grew
end Go.Proofs.YtobelgghegmhhaaGreatDoor
namespace Go.Am
open Go
def hasI (l : List Int) (n : Int) : Bool := l.any fun m => decide (m = n)
def levelT (t : Ty) : Int := bif decide (t.kind = 2) && decide (t.name = [45, 62]) then 0 else bif decide (t.kind = 2) && decide (t.name = [42]) then 1 else 2
end Go.Am
namespace Go.Proofs.YtobelgghegmhhaaGreatDoor
open Go Go.Am
set_option linter.unusedVariables false
set_option maxRecDepth 4000
end Go.Proofs.YtobelgghegmhhaaGreatDoor
namespace Go.Proofs.YtobelgghegmhhaaGreatDoor
open Go Go.Am
set_option linter.unusedVariables false
set_option maxRecDepth 4000
def plainV : AV → Bool
 | .vs _ _ _ _ _ => false
 | .agg _ => false
 | _ => true
theorem Qg4 (ti : TypeId → TI) (n : Nat) {v : AV} (h : plainV v = true) (s : St) : frz ti (n + 1) v s = some (v, s) := by
 cases v <;> first | rfl | simp [plainV] at h
theorem Q8E (ti : TypeId → TI) (n : Nat) : ∀ (l : List AV) (s : St), (∀ v ∈ l, plainV v = true) → frzW (frz ti (n + 1)) l s = some (l, s)
 | [], s, _ => rfl
 | v :: l, s, h => by
   simp only [frzW]
   rw [Qg4 ti n (h v List.mem_cons_self)]
   simp only []
   rw [Q8E ti n l s fun w hw => h w (List.mem_cons_of_mem _ hw)]
theorem Q3n (v : AV) (l : List AV) : flatL (v :: l) = v.cells ++ flatL l := by simp [flatL]
theorem Q63 {sz : Nat} : ∀ {l : List AV}, (∀ v ∈ l, v.cells.length = sz) → (flatL l).length = l.length * sz
 | [], _ => by simp [flatL]
 | v :: l, h => by
   rw [Q3n, List.length_append, Q63 fun w hw => h w (List.mem_cons_of_mem _ hw), h v List.mem_cons_self, List.length_cons, Nat.succ_mul, Nat.add_comm]
theorem Q92 {t : TI} : ∀ {l : List AV}, (∀ v ∈ l, v.cells.length = t.size ∧ ofCells t v.cells = some v) → rows t l.length (flatL l) = some l
 | [], _ => rfl
 | v :: l, h => by
   have hv := h v List.mem_cons_self
   rw [List.length_cons, Q3n]
   simp only [rows]
   rw [List.take_left' hv.1, List.drop_left' hv.1, hv.2]
   simp only []
   rw [Q92 fun w hw => h w (List.mem_cons_of_mem _ hw)]
theorem Q7M {sz : Nat} : ∀ {l : List AV} {i : Nat} {v : AV}, (∀ v ∈ l, v.cells.length = sz) → l[i]? = some v → ∃ a b, flatL l = a ++ (v.cells ++ b) ∧ a.length = i * sz
 | [], i, v, _, h => by simp at h
 | w :: l, 0, v, h, g => by
   simp at g; subst g
   exact ⟨[], flatL l, by rw [Q3n]; rfl, by simp⟩
 | w :: l, i + 1, v, h, g => by
   obtain ⟨a, b, e, k⟩ := Q7M (l := l) (i := i) (v := v) (fun w hw => h w (List.mem_cons_of_mem _ hw)) (by simpa using g)
   refine ⟨w.cells ++ a, b, by rw [Q3n, e, List.append_assoc], ?_⟩
   rw [List.length_append, h w List.mem_cons_self, k, Nat.succ_mul, Nat.add_comm]
def Holds (s : St) (loc : Nat) (l : List AV) : Prop := s.locs[loc]? = some (.var ((flatL l).map .val))
theorem Holds.move {s s' : St} {loc : Nat} {l : List AV} (h : Holds s loc l) (g : Grew s s') : Holds s' loc l := g.loc h
theorem Holds.ld {s : St} {loc : Nat} {l : List AV} (h : Holds s loc l) {t : TI} (hs : ∀ v ∈ l, v.cells.length = t.size) {i : Nat} {v : AV} (hv : l[i]? = some v) : ldV t false s (.val (.vp loc (i * t.size))) = ofSlots t (v.cells.map .val) := by
 obtain ⟨a, b, e, k⟩ := Q7M hs hv
 have hv' := hs v (List.mem_of_getElem? hv)
 unfold Holds at h
 simp only [ldV, cond_false, h, e, List.map_append]
 rw [List.drop_left' (by simpa using k), List.take_left' (by simpa using hv')]
theorem Holds.st {s : St} {loc : Nat} {l : List AV} (h : Holds s loc l) {sz : Nat} (hs : ∀ v ∈ l, v.cells.length = sz) {i : Nat} {v : AV} (hv : l[i]? = some v) : stV s (.val (.vp loc (i * sz))) (v.cells.map .val) = some s := by
 obtain ⟨a, b, e, k⟩ := Q7M hs hv
 unfold Holds at h
 simp only [stV, h, e, List.map_append]
 have : putAt (List.map Slot.val a ++ (List.map Slot.val v.cells ++ List.map Slot.val b)) (i * sz) (List.map Slot.val v.cells) = some (List.map Slot.val a ++ (List.map Slot.val v.cells ++ List.map Slot.val b)) := by
  unfold putAt
  rw [if_pos (by simp only [List.length_append, List.length_map, k]; omega), List.take_left' (by simpa using k), List.drop_append, List.drop_of_length_le (by simp only [List.length_map, k]; omega)]
  simp only [List.length_map, k]
  rw [Nat.add_sub_cancel_left, List.nil_append, List.drop_left' (by simp)]
 rw [this]
 simp only []
 have hlt := (List.getElem?_eq_some_iff.1 h)
 obtain ⟨hlt, hget⟩ := hlt
 congr 1
 rw [show s.locs.set loc (Obj.var (List.map Slot.val a ++ (List.map Slot.val v.cells ++ List.map Slot.val b))) = s.locs from ?_]
 rw [← List.map_append, ← List.map_append, ← e, ← hget]
 exact List.set_getElem_self hlt
theorem Holds.frz {s : St} {loc : Nat} {l : List AV} (h : Holds s loc l) {ti : TypeId → TI} {e : TypeId} (hs : ∀ v ∈ l, v.cells.length = (ti e).size ∧ ofCells (ti e) v.cells = some v) (hp : ∀ v ∈ l, ∀ x ∈ v.cells, plainV x = true) (h0 : 0 < (ti e).size) :
  frzSlot ti (.val (.vs loc e (ti e).size 0 l.length)) s = some (.val (.sl l), { s with locs := s.locs.set loc .dead }) := by
 have hl := Q63 (fun v hv => (hs v hv).1)
 unfold Holds at h
 simp only [frzSlot, Am.frz, h]
 rw [Nat.zero_mul, List.drop_zero, List.take_of_length_le (by simp only [List.length_map, hl]; omega), Qdp]
 simp only []
 rw [Q8E ti 14 _ _ (by intro v hv; obtain ⟨w, hw, hx⟩ := List.mem_flatMap.1 hv; exact hp w hw v hx)]
 simp only []
 rw [Q92 hs]
 simp only [List.length_map, hl, Nat.zero_add]
 rw [show (Nat.blt 0 (ti e).size && Nat.ble (l.length * (ti e).size) (l.length * (ti e).size)) = true by simp [h0, Nat.blt_eq, Nat.ble_eq]]
 rfl
theorem Q68 {s0 s : St} (h : Grew s0 s) {k : Nat} (hk : s0.locs.length ≤ k) (o : Am.Obj) : Grew s0 { s with locs := s.locs.set k o } := by
 obtain ⟨⟨a, ha⟩, hb⟩ := h
 refine ⟨⟨a.set (k - s0.locs.length) o, ?_⟩, hb⟩
 simp only [ha]
 rw [List.set_append_right _ _ hk]
end Go.Proofs.YtobelgghegmhhaaGreatDoor
namespace Go.Proofs.YtobelgghegmhhaaGreatDoor
open Go Go.Am
set_option linter.unusedVariables false
set_option maxRecDepth 4000
theorem Qg2 (a b : List AV) : flatL (a ++ b) = flatL a ++ flatL b := by simp [flatL]
def _root_.Go.Am.St.kill (s : St) (k : Nat) : St := { s with locs := s.locs.set k .dead }
def _root_.Go.Am.St.turn (s : St) (k : Nat) (o : Am.Obj) : St := { s with locs := s.locs.set k .dead ++ [o] }
theorem Holds.lt {s : St} {k : Nat} {l : List AV} (h : Holds s k l) : k < s.locs.length := (List.getElem?_eq_some_iff.1 h).1
theorem Holds.kill {s : St} {j k : Nat} {l : List AV} (h : Holds s j l) (n : j ≠ k) : Holds (s.kill k) j l := by
 unfold Holds St.kill at *
 rw [List.getElem?_set_ne (Ne.symm n)]; exact h
theorem Holds.turn {s : St} {j k : Nat} {l : List AV} (h : Holds s j l) (n : j ≠ k) (o : Am.Obj) : Holds (s.turn k o) j l := by
 have hl := h.lt
 unfold Holds St.turn at *
 simp only []
 rw [List.getElem?_append_left (by rw [List.length_set]; exact hl), List.getElem?_set_ne (Ne.symm n)]; exact h
theorem Holds.put {s : St} {j k : Nat} {l : List AV} (h : Holds s j l) (n : j ≠ k) (o : Am.Obj) : Holds { s with locs := s.locs.set k o } j l := by
 unfold Holds at *
 simp only []
 rw [List.getElem?_set_ne (Ne.symm n)]; exact h
theorem QbQ {x : Option Slot} {d m h : Nat} (hd : d ≤ m) (e : bound x d m = some h) : h ≤ m := by
 unfold bound at e
 split at e
 ·cases e; exact hd
 ·split at e
  ·rename_i h1; cases e; omega
  ·cases e
 ·cases e
theorem QfP {k : IntKind} {d m n : Nat} (h : n ≤ m) : bound (some (.val (.int k (n : Int)))) d m = some n := by
 simp only [bound]
 rw [if_pos ⟨by omega, by omega⟩]; simp
end Go.Proofs.YtobelgghegmhhaaGreatDoor
namespace Go.Am
open Go
mutual
theorem QfX : ∀ t : Ty, eqTy t t = true
 | .mk k n s l b => by simp only [eqTy, Q8z l, decide_true, Bool.and_self]
theorem Q8z : ∀ l : List Ty, eqTys l l = true
 | [] => by simp only [eqTys]
 | t :: l => by simp only [eqTys, QfX t, Q8z l, Bool.and_self]
end
theorem Q04 {k n : Int} {s : Str} {l : List Ty} {b : Bool} (h : goodB (.mk k n s l b) = true) (hk : k = 1) : 0 ≤ n ∧ s = [] ∧ l = [] := by
 have h : goodC k n s l.length (lowB s) = true := h
 unfold goodC at h
 simp only [decide_eq_true hk, cond_true, Bool.and_eq_true, decide_eq_true_eq] at h
 exact ⟨h.1.1, h.1.2, List.eq_nil_of_length_eq_zero (by omega)⟩
mutual
theorem Qjh (L : List Ty) : ∀ t : Ty, allTy goodB t = true → putR L t = (chTy (toPut L) t ()).1
 | .mk k n s l b, h => by
   simp only [allTy, Bool.and_eq_true] at h
   simp only [putR, chTy]
   by_cases hk : k = 1
   ·obtain ⟨h0, rfl, rfl⟩ := Q04 h.1 hk
    simp only [decide_eq_true hk, cond_true, toPut]
    split
    ·rfl
    ·simp only [ownTy, ownTys, tvar, hk]
   ·simp only [decide_eq_false hk, cond_false, QcL L l h.2]
theorem QcL (L : List Ty) : ∀ l : List Ty, allTys goodB l = true → putRs L l = (chTys (toPut L) l ()).1
 | [], _ => by simp only [putRs, chTys]
 | t :: l, h => by
   simp only [allTys, Bool.and_eq_true] at h
   simp only [putRs, chTys, Qjh L t h.1, QcL L l h.2]
end
theorem Z9 {n : Int} : ∀ {l : List Int} {i j : Nat}, placeI n l i = some j → i ≤ j ∧ j < i + l.length ∧ l[j - i]? = some n
 | [], _, _, h => by cases h
 | m :: l, i, j, h => by
   simp only [placeI] at h
   split at h
   ·rename_i e; cases h; exact ⟨Nat.le_refl _, by simp, by simp [e]⟩
   ·obtain ⟨h1, h2, h3⟩ := Z9 h
    refine ⟨by omega, by rw [List.length_cons]; omega, ?_⟩
    rw [show j - i = (j - (i + 1)) + 1 by omega]; simpa using h3
theorem Q5h (n : Int) (l : List Int) : placeR n l < 0 ↔ placeI n l 0 = none := by
 unfold placeR
 cases h : placeI n l 0 with
 | none => simp
 | some j => simp
theorem QaZ : ∀ (a b : List Ty) (acc : List Int), varsL (a ++ b) acc = varsL b (varsL a acc)
 | [], b, acc => rfl
 | u :: a, b, acc => by simp only [List.cons_append, varsL, QaZ a b]
theorem Q2P (n : Int) (old : List Int) : (toCanon n old).2 = if placeR n old < 0 then old ++ [n] else old := by
 unfold toCanon
 by_cases h : placeR n old < 0
 ·rw [if_pos h]; rw [Q5h] at h; rw [h]
 ·rw [if_neg h]; rw [Q5h] at h
  cases hp : placeI n old 0 with
  | none => exact absurd hp h
  | some j => rfl
mutual
theorem Qdd : ∀ (t : Ty) (old : List Int), allTy goodB t = true → varsL (preTy t) old = (chTy toCanon t old).2
 | .mk k n s l b, old, h => by
   simp only [allTy, Bool.and_eq_true] at h
   have hv : varsL (preTy (.mk k n s l b)) old = varsL (preTys l) (bif decide (k = 1) && decide (placeR n old < 0) then old ++ [n] else old) := rfl
   rw [hv]
   simp only [chTy]
   by_cases hk : k = 1
   ·obtain ⟨h0, rfl, rfl⟩ := Q04 h.1 hk
    simp only [decide_eq_true hk, cond_true, Bool.true_and, preTys, varsL, Q2P]
    by_cases hp : placeR n old < 0
    ·simp [hp]
    ·simp [hp]
   ·simp only [decide_eq_false hk, cond_false, Bool.false_and, Qb1 l old h.2]
theorem Qb1 : ∀ (l : List Ty) (old : List Int), allTys goodB l = true → varsL (preTys l) old = (chTys toCanon l old).2
 | [], old, _ => by simp only [preTys, varsL, chTys]
 | t :: l, old, h => by
   simp only [allTys, Bool.and_eq_true] at h
   simp only [preTys, QaZ, chTys, Qdd t old h.1, Qb1 l _ h.2]
end
theorem Qju (t : Ty) (h : allTy goodB t = true) : varsTyR t = (canonTy t).2 := Qdd t [] h
def Ext (a b : List Int) : Prop := ∃ c, b = a ++ c
theorem Ext.refl (a : List Int) : Ext a a := ⟨[], by simp⟩
theorem Ext.trans {a b c : List Int} (h : Ext a b) (g : Ext b c) : Ext a c := by
 obtain ⟨x, rfl⟩ := h; obtain ⟨y, rfl⟩ := g; exact ⟨x ++ y, by simp⟩
theorem Q3t {n : Int} {i j : Nat} : ∀ {a c : List Int}, placeI n a i = some j → placeI n (a ++ c) i = some j := by
 intro a
 induction a generalizing i with
 | nil => intro c h; cases h
 | cons m a ih =>
   intro c h
   simp only [List.cons_append, placeI] at h ⊢
   split at h
   ·rename_i e; rw [if_pos e]; exact h
   ·rename_i e; rw [if_neg e]; exact ih h
theorem Q7v (n : Int) (old : List Int) : Ext old (toCanon n old).2 := by
 rw [Q2P]; split
 ·exact ⟨_, rfl⟩
 ·exact .refl _
mutual
theorem Qdu : ∀ (t : Ty) (old : List Int), Ext old (chTy toCanon t old).2
 | .mk k n s l b, old => by
   simp only [chTy]
   cases decide (k = 1) with
   | true => exact Q7v n old
   | false => exact Q0p l old
theorem Q0p : ∀ (l : List Ty) (old : List Int), Ext old (chTys toCanon l old).2
 | [], old => .refl _
 | t :: l, old => by simp only [chTys]; exact (Qdu t old).trans (Q0p l _)
end
theorem toCanon_ty {n : Int} {old fin : List Int} (h : Ext (toCanon n old).2 fin) : (toCanon n old).1 = tvar (placeR n fin) ∧ ∃ j, placeI n fin 0 = some j := by
 obtain ⟨c, rfl⟩ := h
 unfold toCanon placeR
 cases hp : placeI n old 0 with
 | some j =>
   simp only []
   have := Q3t (c := c) hp
   rw [this]; exact ⟨rfl, j, rfl⟩
 | none =>
   simp only []
   have h1 : placeI n (old ++ [n]) 0 = some old.length := by
    rw [show placeI n (old ++ [n]) 0 = _ from placeI_app' n n old 0, hp]; simp
   have := Q3t (c := c) h1
   rw [this]; exact ⟨rfl, _, rfl⟩
where
 placeI_app' (n m : Int) : ∀ (l : List Int) (i : Nat), placeI n (l ++ [m]) i = match placeI n l i with | some j => some j | none => if n = m then some (i + l.length) else none
 | [], i => by simp [placeI]
 | a :: l, i => by
   simp only [List.cons_append, placeI, placeI_app' n m l (i + 1), List.length_cons]
   by_cases h : n = a
   ·simp [h]
   ·simp only [h, if_false]
    rw [show i + 1 + l.length = i + (l.length + 1) by omega]
mutual
theorem Qjl : ∀ (t : Ty) (old fin : List Int), Ext (chTy toCanon t old).2 fin → renR fin t = (chTy toCanon t old).1
 | .mk k n s l b, old, fin, h => by
   simp only [chTy] at h ⊢
   simp only [renR]
   cases hk : decide (k = 1) with
   | true => rw [hk] at h; simp only [cond_true] at h ⊢; exact (toCanon_ty h).1.symm
   | false => rw [hk] at h; simp only [cond_false] at h ⊢; rw [QcQ l old fin h]
theorem QcQ : ∀ (l : List Ty) (old fin : List Int), Ext (chTys toCanon l old).2 fin → renRs fin l = (chTys toCanon l old).1
 | [], old, fin, _ => by simp only [renRs, chTys]
 | t :: l, old, fin, h => by
   simp only [chTys] at h ⊢
   simp only [renRs]
   rw [Qjl t old fin ((Q0p l _).trans h), QcQ l _ fin h]
end
theorem Ty.size_pos (t : Ty) : 1 ≤ t.size := by cases t; simp only [Ty.size]; omega
section
variable {σ : Type} (to : Int → σ → Ty × σ) (B : Nat)
mutual
theorem QfS (h : ∀ n st, (to n st).1.size ≤ B) (hB : 1 ≤ B) : ∀ (t : Ty) (st : σ), (chTy to t st).1.size ≤ t.size * B
 | .mk k n s l b, st => by
   simp only [chTy, Ty.size, Nat.add_mul, Nat.one_mul]
   have h1 := h n st
   have h2 := Q8u h hB l st
   cases decide (k = 1) with
   | true => simp only [cond_true]; omega
   | false => simp only [cond_false, Ty.size]; omega
theorem Q8u (h : ∀ n st, (to n st).1.size ≤ B) (hB : 1 ≤ B) : ∀ (l : List Ty) (st : σ), Ty.sizes (chTys to l st).1 ≤ Ty.sizes l * B
 | [], st => by simp only [chTys, Ty.sizes]; omega
 | t :: l, st => by
   have h1 := QfS h hB t st
   have h2 := Q8u h hB l (chTy to t st).2
   simp only [chTys, Ty.sizes, Nat.add_mul]; omega
end
end
end Go.Am
namespace Go.Am
open Go
mutual
theorem Qer : ∀ t : Ty, ownTy (ownTy t) = ownTy t
 | .mk k n s l b => by simp only [ownTy, QcG l]
theorem QcG : ∀ l : List Ty, ownTys (ownTys l) = ownTys l
 | [] => rfl
 | t :: l => by simp only [ownTys, Qer t, QcG l]
end
section
variable {σ : Type} (to : Int → σ → Ty × σ)
mutual
theorem QfT : ∀ (t : Ty) (st : σ), chTy to (ownTy t) st = chTy to t st
 | .mk k n s l b, st => by simp only [ownTy, chTy, Qe9 l st]
theorem Qe9 : ∀ (l : List Ty) (st : σ), chTys to (ownTys l) st = chTys to l st
 | [], _ => rfl
 | t :: l, st => by simp only [ownTys, chTys, QfT t st, Qe9 l]
end
mutual
theorem Qgr (h : ∀ n st, ownTy (to n st).1 = (to n st).1) : ∀ (t : Ty) (st : σ), ownTy (chTy to t st).1 = (chTy to t st).1
 | .mk k n s l b, st => by
   simp only [chTy]
   cases decide (k = 1) with
   | true => exact h n st
   | false => simp only [cond_false, ownTy, Qes h l st]
theorem Qes (h : ∀ n st, ownTy (to n st).1 = (to n st).1) : ∀ (l : List Ty) (st : σ), ownTys (chTys to l st).1 = (chTys to l st).1
 | [], _ => rfl
 | t :: l, st => by simp only [chTys, ownTys, Qgr h t st, Qes h l]
end
mutual
theorem Qj0 (h : ∀ n st, 0 ≤ n → (to n st).1 = tvar n) : ∀ (t : Ty) (st : σ), allTy goodB t = true → eqTy (chTy to t st).1 t = true
 | .mk k n s l b, st, g => by
   simp only [allTy, Bool.and_eq_true] at g
   simp only [chTy]
   by_cases hk : k = 1
   ·obtain ⟨h0, rfl, rfl⟩ := Q04 g.1 hk
    rw [decide_eq_true hk]; simp only [cond_true, h n st h0, tvar, eqTy, eqTys]
    rw [decide_eq_true hk.symm]; simp
   ·rw [decide_eq_false hk]; simp only [cond_false, eqTy, QbV h l st g.2, decide_true, Bool.and_self]
theorem QbV (h : ∀ n st, 0 ≤ n → (to n st).1 = tvar n) : ∀ (l : List Ty) (st : σ), allTys goodB l = true → eqTys (chTys to l st).1 l = true
 | [], _, _ => by simp only [chTys, eqTys]
 | t :: l, st, g => by
   simp only [allTys, Bool.and_eq_true] at g
   simp only [chTys, eqTys, Qj0 h t st g.1, QbV h l _ g.2, Bool.and_self]
end
end
theorem QgL (l : List Ty) (n : Int) (u : Unit) : ownTy (toPut l n u).1 = (toPut l n u).1 := by
 simp only [toPut]
 split
 ·exact Qer _
 ·simp only [tvar, ownTy, ownTys]
mutual
def VarsLt (b : Int) : Ty → Prop
 | .mk k n _ l _ => (k = 1 → n < b) ∧ (k ≠ 1 → VarsLts b l)
def VarsLts (b : Int) : List Ty → Prop
 | [] => True
 | t :: l => VarsLt b t ∧ VarsLts b l
end
mutual
theorem QgX (b : Int) : ∀ (t : Ty) (old fin : List Int), Ext (chTy toCanon t old).2 fin → (∀ n ∈ fin, n < b) → VarsLt b t
 | .mk k n s l _, old, fin, h, hf => by
   simp only [chTy] at h
   simp only [VarsLt]
   by_cases hk : k = 1
   ·rw [decide_eq_true hk] at h; simp only [cond_true] at h
    obtain ⟨-, j, hj⟩ := toCanon_ty h
    have := (Z9 hj).2.2
    exact ⟨fun _ => hf n (List.mem_of_getElem? this), fun h => absurd hk h⟩
   ·rw [decide_eq_false hk] at h; simp only [cond_false] at h
    exact ⟨fun h => absurd h hk, fun _ => Q9k b l old fin h hf⟩
theorem Q9k (b : Int) : ∀ (l : List Ty) (old fin : List Int), Ext (chTys toCanon l old).2 fin → (∀ n ∈ fin, n < b) → VarsLts b l
 | [], _, _, _, _ => trivial
 | t :: l, old, fin, h, hf => by
   simp only [chTys] at h
   exact ⟨QgX b t old fin ((Q0p l _).trans h) hf, Q9k b l _ fin h hf⟩
end
mutual
theorem Qji (l k : List Ty) : ∀ (t : Ty), allTy goodB t = true → VarsLt l.length t → putTy (putTy t l) k = putTy t (l.map fun u => putTy u k)
 | .mk kd n s a b, h, hv => by
   simp only [allTy, Bool.and_eq_true] at h
   simp only [VarsLt] at hv
   by_cases hk : kd = 1
   ·obtain ⟨h0, -, -⟩ := Q04 h.1 hk
    have hn := hv.1 hk
    obtain ⟨m, rfl⟩ := Int.eq_ofNat_of_zero_le h0
    have hm : m < l.length := by omega
    have e1 : putTy (.mk kd (m : Int) s a b) l = ownTy l[m] := by
     simp only [putTy, chTy]; rw [decide_eq_true hk]; simp only [cond_true, toPut]
     rw [if_pos ⟨h0, hn⟩]; simp [hm]
    have e2 : putTy (.mk kd (m : Int) s a b) (l.map fun u => putTy u k) = ownTy (putTy l[m] k) := by
     simp only [putTy, chTy]; rw [decide_eq_true hk]; simp only [cond_true, toPut]
     rw [if_pos ⟨h0, by simpa using hn⟩]; simp [hm]
    rw [e1, e2]
    show (chTy (toPut k) (ownTy l[m]) ()).1 = ownTy (chTy (toPut k) l[m] ()).1
    rw [QfT, Qgr (toPut k) (QgL k)]
   ·have ih := QcM l k a h.2 (hv.2 hk)
    simp only [putTy, chTy]
    rw [decide_eq_false hk]; simp only [cond_false, chTy]
    rw [decide_eq_false hk]; simp only [cond_false]
    rw [ih]; rfl
theorem QcM (l k : List Ty) : ∀ (a : List Ty), allTys goodB a = true → VarsLts l.length a → (chTys (toPut k) (chTys (toPut l) a ()).1 ()).1 = (chTys (toPut (l.map fun u => putTy u k)) a ()).1
 | [], _, _ => rfl
 | t :: a, h, hv => by
   simp only [allTys, Bool.and_eq_true] at h
   simp only [VarsLts] at hv
   have h1 := Qji l k t h.1 hv.1
   have h2 := QcM l k a h.2 hv.2
   show putTy (putTy t l) k :: _ = putTy t (l.map fun u => putTy u k) :: _
   rw [h1]
   exact congrArg _ h2
end
end Go.Am