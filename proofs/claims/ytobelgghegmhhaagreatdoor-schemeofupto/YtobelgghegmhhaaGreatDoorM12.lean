/- A part of the proof: SShow6, SSch1, SSch2, SSch3, SSch4, SRef1, PTree2, SRef2, SRef5, SRef8, SRefT1, SRefT2, SRef10c, SArr, SArr2. -/
import Derived.Test.YtobelgghegmhhaaGreatDoorM6
import Derived.Test.YtobelgghegmhhaaGreatDoorM7
import Derived.Test.YtobelgghegmhhaaGreatDoorM8
import Derived.Test.YtobelgghegmhhaaGreatDoorM9
import Derived.Test.YtobelgghegmhhaaGreatDoorM10
import Derived.Test.YtobelgghegmhhaaGreatDoorM11
import Derived.Lib.IndexMore
set_option linter.unusedVariables false
set_option linter.unusedSimpArgs false
namespace Go.Am
open Go
theorem Q73 {sign : Str} {x : Str} : ∀ {L : List (List Str)} {f : Bool}, x ∈ joinT sign L f → x = sign ∨ ∃ l ∈ L, x ∈ l
 | [], _, h => by simp [joinT] at h
 | l :: r, f, h => by
   simp only [joinT, List.mem_append] at h
   rcases h with h | h
   ·cases f
    ·simp only [cond_false, List.mem_cons] at h
     rcases h with h | h
     ·exact .inl h
     ·exact .inr ⟨l, List.mem_cons_self, h⟩
    ·exact .inr ⟨l, List.mem_cons_self, h⟩
   ·rcases Q73 h with h | ⟨m, h1, h2⟩
    ·exact .inl h
    ·exact .inr ⟨m, List.mem_cons_of_mem _ h1, h2⟩
theorem Qe3 {b : Bool} {l : List Str} {x : Str} (h : x ∈ parT b l) : x.length ≤ 1 ∨ x ∈ l := by
 cases b
 ·exact .inr h
 ·simp only [parT, cond_true, List.mem_cons, List.mem_append, List.not_mem_nil, or_false] at h
  rcases h with rfl | h | rfl
  ·exact .inl (by simp)
  ·exact .inr h
  ·exact .inl (by simp)
theorem Q8K {L : List (List Str)} {i : Nat} {x : Str} (h : x ∈ L.getD i []) : ∃ l ∈ L, x ∈ l := by
 rw [List.getD_eq_getElem?_getD] at h
 cases hl : L[i]? with
 | none => rw [hl] at h; simp at h
 | some l => rw [hl] at h; exact ⟨l, List.mem_of_getElem? hl, h⟩
theorem QjC {nm : Str} (h : tokB nm = true) : nm.length ≤ 65536 := by
 unfold tokB lxScan at h
 by_cases hl : (nm.length : Int) > 65536
 ·rw [decide_eq_true hl] at h
  simp at h
 ·omega
theorem Qi8 {nm : Str} {len : Nat} (h : tellN nm len = true) : nm.length ≤ 65536 := by
 unfold tellN at h
 cases h1 : decide (nm = [105, 110, 116]) with
 | true => rw [of_decide_eq_true h1]; simp
 | false =>
   cases h2 : decide (nm = [98, 111, 111, 108]) with
   | true => rw [of_decide_eq_true h2]; simp
   | false =>
     cases h3 : decide (nm = [117, 110, 105, 116]) with
     | true => rw [of_decide_eq_true h3]; simp
     | false =>
       cases h4 : decide (nm = [101, 120, 110]) with
       | true => rw [of_decide_eq_true h4]; simp
       | false =>
         cases h5 : decide (nm = [114, 101, 102]) with
         | true => rw [of_decide_eq_true h5]; simp
         | false =>
           cases h6 : decide (nm = [45, 62]) with
           | true => rw [of_decide_eq_true h6]; simp
           | false =>
             cases h7 : decide (nm = [42]) with
             | true => rw [of_decide_eq_true h7]; simp
             | false =>
               rw [h1, h2, h3, h4, h5, h6, h7] at h
               simp only [Bool.or_self, cond_false, Bool.and_eq_true] at h
               exact QjC h.1
theorem QgH {t : Ty} (h : tellB t = true) : t.name.length ≤ 65536 := by
 unfold tellB at h
 cases hk : decide (t.kind = 1) with
 | true =>
   rw [hk] at h
   simp only [cond_true, Bool.and_eq_true, decide_eq_true_eq] at h
   rw [h.2.2.1]; simp
 | false =>
   rw [hk] at h
   simp only [cond_false] at h
   cases h2 : (!decide (t.kind = 2) || !decide (t.n = 0)) with
   | true => rw [h2] at h; cases h
   | false => rw [h2] at h; exact Qi8 h
theorem Qi7 {t : Ty} (hk : decide (t.kind = 1) = true) (h : tellB t = true) : 0 ≤ t.n ∧ t.n ≤ 1000 := by
 unfold tellB at h
 rw [hk] at h
 simp only [cond_true, Bool.and_eq_true, decide_eq_true_eq] at h
 exact ⟨h.1, h.2.1⟩
theorem QdC {n : Int} (h0 : 0 ≤ n) (h : n < 2^62) : (letT n).length ≤ 22 := by
 unfold letT
 have := Go.Lib.itoa_length_le (n / 26) (by omega) (by omega)
 cases decide (n > 25) <;> simp <;> omega
mutual
theorem Qey : ∀ (t : Ty) (lv : Int), allTy tellB t = true → ∀ x ∈ typT t lv, x.length ≤ 65536
 | .mk k n nm ags nl, lv, h, x, hx => by
   simp only [allTy, Bool.and_eq_true] at h
   have hnm := QgH h.1
   simp only [Ty.name] at hnm
   have hk := Qcc ags
   have sub : ∀ lv, (∃ l ∈ typTs ags lv, x ∈ l) → x.length ≤ 65536 := fun lv ⟨l, h1, h2⟩ => hk lv h.2 l h1 x h2
   simp only [typT] at hx
   cases h1 : decide (k = 1) with
   | true =>
     rw [h1] at hx
     simp only [cond_true, List.mem_singleton] at hx
     subst hx
     have ht := Qi7 (t := .mk k n nm ags nl) h1 h.1
     simp only [Ty.n] at ht
     have := QdC (n := n) ht.1 (by have := ht.2; omega)
     simp only [List.length_cons]; omega
   | false =>
     rw [h1] at hx
     cases h2 : decide (nm = [45, 62]) with
     | true =>
       rw [h2] at hx
       simp only [cond_true, cond_false] at hx
       rcases Qe3 hx with hx | hx
       ·omega
       ·simp only [List.mem_append, List.mem_singleton] at hx
        rcases hx with (hx | rfl) | hx
        ·exact sub 1 (Q8K hx)
        ·simp
        ·exact sub 0 (Q8K hx)
     | false =>
       rw [h2] at hx
       cases h3 : decide (nm = [42]) with
       | true =>
         rw [h3] at hx
         simp only [cond_true, cond_false] at hx
         rcases Qe3 hx with hx | hx
         ·omega
         ·rcases Q73 hx with rfl | hx
          ·simp
          ·exact sub 2 hx
       | false =>
         rw [h3] at hx
         cases h4 : decide (ags.length = 0) with
         | true =>
           rw [h4] at hx
           simp only [cond_true, cond_false, List.mem_singleton] at hx
           subst hx; exact hnm
         | false =>
           rw [h4] at hx
           cases h5 : decide (ags.length = 1) with
           | true =>
             rw [h5] at hx
             simp only [cond_true, cond_false, List.mem_append, List.mem_singleton] at hx
             rcases hx with hx | rfl
             ·exact sub 2 (Q8K hx)
             ·exact hnm
           | false =>
             rw [h5] at hx
             simp only [cond_false, List.mem_append, List.mem_cons, List.not_mem_nil, or_false] at hx
             rcases hx with (rfl | hx | rfl) | rfl
             ·simp
             ·rcases Q73 hx with rfl | hx
              ·simp
              ·exact sub 0 hx
             ·simp
             ·exact hnm
theorem Qcc : ∀ (l : List Ty) (lv : Int), allTys tellB l = true → ∀ q ∈ typTs l lv, ∀ x ∈ q, x.length ≤ 65536
 | [], _, _, q, hq, _, _ => by cases hq
 | t :: l, lv, h, q, hq, x, hx => by
   simp only [allTys, Bool.and_eq_true] at h
   simp only [typTs, List.mem_cons] at hq
   rcases hq with rfl | hq
   ·exact Qey t lv h.1 x hx
   ·exact Qcc l lv h.2 q hq x hx
end
theorem Qc8 {M : Nat} : ∀ {l : List Str}, (∀ x ∈ l, x.length ≤ M) → tokSum l ≤ l.length * (M + 1)
 | [], _ => by simp [tokSum]
 | s :: l, h => by
   have h1 := h s List.mem_cons_self
   have h2 := Qc8 (l := l) fun x hx => h x (List.mem_cons_of_mem _ hx)
   rw [Q5e, List.length_cons, Nat.add_mul]; omega
end Go.Am
namespace Go.Proofs.YtobelgghegmhhaaGreatDoor
open Go Go.Am
set_option linter.unusedVariables false
set_option maxRecDepth 4000
theorem Qfe {t : Ty} (h : tellB t = true) : shpB t = true := by
 unfold tellB at h
 unfold shpB
 cases hk : decide (t.kind = 1) with
 | true =>
   rw [hk] at h
   simp only [cond_true, Bool.and_eq_true, decide_eq_true_eq] at h ⊢
   omega
 | false =>
   rw [hk] at h
   simp only [cond_false] at h ⊢
   cases h2 : (!decide (t.kind = 2) || !decide (t.n = 0)) with
   | true => rw [h2] at h; cases h
   | false =>
     rw [h2] at h
     cases h3 : decide (t.name = [45, 62]) with
     | false => simp
     | true =>
       have hn := of_decide_eq_true h3
       simp only [cond_false, hn] at h
       simpa [tellN] using h
mutual
theorem QfS : ∀ t : Ty, allTy tellB t = true → allTy shpB t = true
 | .mk k n nm l nl, h => by
   simp only [allTy, Bool.and_eq_true] at h ⊢
   exact ⟨Qfe h.1, Qem l h.2⟩
theorem Qem : ∀ l : List Ty, allTys tellB l = true → allTys shpB l = true
 | [], _ => rfl
 | t :: l, h => by
   simp only [allTys, Bool.and_eq_true] at h ⊢
   exact ⟨QfS t h.1, Qem l h.2⟩
end
theorem Q5C (t : Ty) (s : St) (h : t.size < 2^40) (hn : NamesTy t) : Ret (cw (.f Q39) [t.enc] s) s (.str (typeT t)) := by
 obtain ⟨s1, m', b, e1, d1, l1, v1, -⟩ := Qca s.locs.length t.size t (Nat.le_refl _) h hn 256 (St.addLoc s (.var [.val (.int .i64 256)])) (by simp [AtL, St.addLoc]) (by decide) (by decide)
 have hb : b = toldB t := by
  unfold toldB
  rw [Bool.eq_iff_iff, d1]
  simp only [Bool.and_eq_true, decide_eq_true_eq]
  constructor <;> rintro ⟨g1, g2⟩ <;> exact ⟨by omega, g2⟩
 subst hb
 have g1 : Grew s s1 := Moves.toGrew (Moves.since (A := []) (h := []) (Moves.grew [] [] ((Grew.refl s).addLoc _)) v1 (fun i hi => .inr (by simp only [List.mem_singleton] at hi; omega)) (by simp))
 rw [Qej]
 simp only [go_sem, Nat.reduceAdd, Nat.reduceLeDiff, Ty.cells_eq, Ty.enc] at e1 ⊢
 unfold typeT
 cases hb : toldB t with
 | false =>
   rw [hb] at e1
   simp only [go_sem, e1]
   exact ⟨s1, rfl, g1⟩
 | true =>
   have hb2 := hb
   unfold toldB at hb2
   simp only [Bool.and_eq_true, decide_eq_true_eq] at hb2
   obtain ⟨y, s2, e2, g2, h2⟩ := Q6t t.size t (Nat.le_refl _) (by omega) (QfS t hb2.2) 0 s1
   obtain ⟨v, av, hv⟩ := h2.av
   have hl := Q1w t 0
   have hs := Qc8 (Qey t 0 hb2.2)
   have hs2 : (typT t 0).length * (65536 + 1) ≤ 1536 * (65536 + 1) := Nat.mul_le_mul_right _ (by omega)
   obtain ⟨s3, e3, g3⟩ := Qb5 (typT t 0) v hv (by omega) s2
   rw [hb] at e1
   simp only [go_sem, Ty.enc, Ty.cells_eq] at e2
   simp only [go_sem, e1, e2, Z5 av, e3]
   exact ⟨s3, rfl, (g1.trans g2).trans g3⟩
end Go.Proofs.YtobelgghegmhhaaGreatDoor
namespace Go.Proofs.YtobelgghegmhhaaGreatDoor
open Go Go.Am
set_option linter.unusedVariables false
set_option maxRecDepth 4000
section
variable {σ : Type} (to : Int → σ → Ty × σ) (g : Nat) (caps : List AV) (A : List Nat) (R : σ → List Nat → St → Prop) (P : σ → Prop) (V : Nat)
def rebFn : AV := .fn Zn [.cp [.fn g caps], .vp V 0]
def RbOK (t : Ty) : Prop :=
 ∀ st h s, R st h s → P (chTy to t st).2 → ∃ s' h', cw (.f Zn) [t.enc, .cp [.fn g caps], .vp V 0] s = some (.ret (.val (chTy to t st).1.enc), s') ∧ R (chTy to t st).2 h' s' ∧ Moves A h h' s s'
variable {to g caps A R P V}
theorem Q7i (H : ToOK to g caps A R P) (HV : ∀ st h s, R st h s → s.locs[V]? = some (.var [.val (rebFn g caps V)])) (t : Ty) (hl : t.args.length < 2^28) (s0 : St) (h0 : List Nat) (z : List Slot) (hz : z.length = 4) : ∀ (suf pre B : List Ty) (x : Slot) (st : σ) (h : List Nat) (s : St) (i : Nat), AccH Q3 s0.toks.length h s x (B.map Ty.enc) → Moves A h0 h s0 s → R st h s → P (chTys to suf st).2 → pre ++ suf = t.args → i = pre.length → B.length = pre.length → (∀ t ∈ suf, RbOK to g caps A R P V t) →
  ∃ s' h', Zj (.val (.vp V 0)) z [.val (.int .i64 t.kind), .val (.int .i64 t.n), .val (.str t.name), x] (.val (encS t.nl (t.args.map Ty.enc))) (.val (.int .i64 t.args.length)) (.val (.int .i64 i)) s = some (.ret (.val (Ty.mk t.kind t.n t.name (B ++ (chTys to suf st).1) true).enc), s') ∧ R (chTys to suf st).2 h' s' ∧ Moves A h0 h' s0 s'
 | [], pre, B, x, st, h, s, i, hA, hM, hR, hP, hpre, hi, hn, HC => by
   subst hi
   refine ⟨s, h, ?_, hR, hM⟩
   rw [Q1P]; simp only [go_sem, Nat.reduceAdd, Nat.reduceLeDiff, Qf (by simpa using hpre), Z5 hA.av, chTys, hz]
   simp only [Ty.enc]; rw [Ty.cells_mk]
 | u :: suf, pre, B, x, st, h, s, i, hA, hM, hR, hP, hpre, hi, hn, HC => by
   subst hi
   obtain ⟨f1, f2, f3⟩ := Qc (x := .val (encS t.nl (t.args.map Ty.enc))) (Qa _ _) hpre (by omega) (Ty.cells_len u) (by decide)
   have hlen : pre.length < t.args.length := by rw [← hpre]; simp
   simp only [chTys] at hP
   obtain ⟨s1, h1, e1, r1, m1⟩ := HC u List.mem_cons_self st h s hR (Q3S H suf _ hP)
   obtain ⟨x1, s2, e2, a2, m2, l2, t2, b2⟩ := tyAcc (B := [(chTy to u st).1]) (y := .full [(chTy to u st).1.enc]) (hA.move m1) (hM.trans m1) (H.held _ _ _ r1) rfl (by simp only [List.length_singleton]; omega)
   have r2 := H.stab _ _ _ s2 r1 l2 t2
   obtain ⟨s3, h3, e3, r3, m3⟩ := Q7i H HV t hl s0 h0 z hz suf (pre ++ [u]) (B ++ [(chTy to u st).1]) x1 (chTy to u st).2 h1 s2 (pre.length + 1) a2 m2 r2 hP (by simpa using hpre) (by simp) (by simp [hn]) (fun w hw => HC w (List.mem_cons_of_mem _ hw))
   refine ⟨s3, h3, ?_, r3, m3⟩
   have c1 := a2.cellOk
   have q1 := Zb (t := C.ti Qi) (off := 0) (HV _ _ _ hR)
   rw [Q1P]; simp only [go_sem, Nat.reduceAdd, Nat.reduceLeDiff, f1, f2, f3, q1, rebFn, e1, e2, c1, chTys] at e3 ⊢
   exact e3
theorem Q5s (H : ToOK to g caps A R P) (HV : ∀ st h s, R st h s → s.locs[V]? = some (.var [.val (rebFn g caps V)])) : ∀ (k : Nat) (t : Ty), t.size ≤ k → WideTy t → RbOK to g caps A R P V t
 | 0, .mk _ _ _ _ _, h, _ => by simp only [Ty.size] at h; omega
 | k + 1, .mk kd n nm l nl, hs, hs' => fun st h s hR hP => by
   simp only [Ty.size] at hs
   have hl := hs'.len
   simp only [chTy] at hP ⊢
   rw [Q6y]
   by_cases hk : kd = 1
   ·rw [decide_eq_true hk, cond_true] at hP
    obtain ⟨s1, h1, e1, r1, m1⟩ := H.call n st h s hR hP
    refine ⟨s1, h1, ?_, by rw [decide_eq_true hk]; exact r1, m1⟩
    simp only [go_sem, Nat.reduceAdd, Nat.reduceLeDiff, Ty.enc, decide_eq_true hk, e1, cond_true]
   ·rw [decide_eq_false hk, cond_false] at hP
    obtain ⟨s1, h1, e1, r1, m1⟩ := Q7i H HV (.mk kd n nm l nl) (by simp only [Ty.args]; omega) s h [.val (.int .i64 0), .val (.int .i64 0), .val (.str []), .val .nils] rfl l [] [] (.val .nils) st h s 0 (.nil _ _ _ _) (.refl _ _ _) hR hP rfl rfl rfl (fun t ht => by
     have := Ty.mem_sizes ht
     exact Q5s H HV k t (by omega) (hs'.arg ht))
    refine ⟨s1, h1, ?_, by rw [decide_eq_false hk]; exact r1, m1⟩
    rw [show ((0 : Nat) : Int) = 0 from rfl] at e1
    simp only [go_sem, Nat.reduceAdd, Nat.reduceLeDiff, Ty.enc, Ty.kind, Ty.n, Ty.name, Ty.args, Ty.nl, decide_eq_false hk, cond_false] at e1 ⊢
    exact e1
end
theorem Q0T (n : Int) (s : St) : cw (.f ZE) [.int .i64 n] s = some (.ret (.val (tvar n).enc), s) := by
 rw [Q7m]
 simp only [go_sem, Nat.reduceAdd, Nat.reduceLeDiff, tvar, Ty.enc]
def restT (n : Int) : Str := bif decide (n = 0) then [] else Go.Lib.itoa n
theorem Q94 (n : Int) (h : -9223372036854775808 ≤ n ∧ n ≤ 9223372036854775807) (s : St) : cw (.f Q3w) [.int .i64 n] s = some (.ret (.val (.str (restT n))), s) := by
 have e1 := QbB n h s
 rw [Qb3]
 unfold restT
 cases hn : decide (n = 0) <;> simp only [go_sem, hn, e1]
end Go.Proofs.YtobelgghegmhhaaGreatDoor
namespace Go.Am
open Go
mutual
def rebT (f : Int → Ty) : Ty → Ty
 | .mk k n s l _ => bif decide (k = 1) then f n else .mk k n s (rebTs f l) true
def rebTs (f : Int → Ty) : List Ty → List Ty
 | [] => []
 | t :: l => rebT f t :: rebTs f l
end
def varB (pb : Int → Bool) (u : Ty) : Bool := !decide (u.kind = 1) || pb u.n
mutual
theorem Qhh (f : Int → Ty) (pb : Int → Bool) : ∀ (t : Ty) (b : Bool), (chTy (fun n (b : Bool) => (f n, b && pb n)) t b).1 = rebT f t ∧ (b = true → allTy (varB pb) t = true → (chTy (fun n (b : Bool) => (f n, b && pb n)) t b).2 = true)
 | .mk k n s l nl, b => by
   obtain ⟨h1, h2⟩ := Qfx f pb l b
   simp only [chTy, rebT, allTy, Bool.and_eq_true]
   cases hk : decide (k = 1) with
   | true =>
     refine ⟨rfl, ?_⟩
     rintro rfl ⟨g1, _⟩
     have : varB pb (.mk k n s l nl) = pb n := by unfold varB; rw [show (Ty.mk k n s l nl).kind = k from rfl, hk]; rfl
     rw [this] at g1
     simpa using g1
   | false =>
     refine ⟨by simp only [cond_false, h1], ?_⟩
     rintro rfl ⟨_, g2⟩
     exact h2 rfl g2
theorem Qfx (f : Int → Ty) (pb : Int → Bool) : ∀ (l : List Ty) (b : Bool), (chTys (fun n (b : Bool) => (f n, b && pb n)) l b).1 = rebTs f l ∧ (b = true → allTys (varB pb) l = true → (chTys (fun n (b : Bool) => (f n, b && pb n)) l b).2 = true)
 | [], b => ⟨rfl, fun h _ => h⟩
 | t :: l, b => by
   obtain ⟨h1, h2⟩ := Qhh f pb t b
   obtain ⟨h3, h4⟩ := Qfx f pb l (chTy (fun n (b : Bool) => (f n, b && pb n)) t b).2
   simp only [chTys, rebTs, allTys, Bool.and_eq_true]
   refine ⟨by rw [h1, h3], ?_⟩
   rintro hb ⟨g1, g2⟩
   exact h4 (h2 hb g1) g2
end
end Go.Am
namespace Go.Proofs.YtobelgghegmhhaaGreatDoor
open Go Go.Am
set_option linter.unusedVariables false
set_option maxRecDepth 4000
theorem Q2Q (f : Int → Ty) (pb : Int → Bool) (g : Nat) (caps : List AV) (hx : (C.ext g).isSome = false) (Q : St → Prop) (hQ : ∀ s s', Q s → (∀ (i : Nat) (x : Am.Obj), s.locs[i]? = some x → s'.locs[i]? = some x) → Q s') (hf : ∀ n s, Q s → pb n = true → Ret (cw (.f g) (.int .i64 n :: caps) s) s (f n).enc) (t : Ty) (ht : WideTy t) (hp : allTy (varB pb) t = true) (s : St) (hs : Q s) :
  Ret (cw (.f Q0L) [t.enc, .fn g caps] s) s (rebT f t).enc := by
 let R : Bool → List Nat → St → Prop := fun _ h s1 => h = [] ∧ Q s1 ∧ s1.locs[s.locs.length]? = some (.var [.val (rebFn g caps s.locs.length)])
 have H : ToOK (fun n (b : Bool) => (f n, b && pb n)) g caps [] R (fun b => b = true) := by
  refine ⟨fun n st h s1 hR hP => ?_, ?_, ?_, ?_⟩
  ·obtain ⟨rfl, h2, h3⟩ := hR
   simp only [Bool.and_eq_true] at hP
   obtain ⟨s2, e1, g1⟩ := hf n s1 h2 hP.2
   exact ⟨s2, [], e1, ⟨rfl, hQ _ _ h2 (fun i x => g1.loc), g1.loc h3⟩, .grew _ _ g1⟩
  ·rintro _ _ _ ⟨rfl, _⟩ k hk; cases hk
  ·rintro st h s1 s2 ⟨rfl, h2, h3⟩ hl hk
   exact ⟨rfl, hQ _ _ h2 (fun i x h => by rw [hl]; exact h), by rw [hl]; exact h3⟩
  ·intro n st h
   simp only [Bool.and_eq_true] at h
   exact h.1
 have h0 : (s.addLoc (.var [.val (rebFn g caps s.locs.length)])).locs[s.locs.length]? = some (.var [.val (rebFn g caps s.locs.length)]) := Q4E s _
 have g0 : Grew s (s.addLoc (.var [.val (rebFn g caps s.locs.length)])) := (Grew.refl s).addLoc _
 obtain ⟨c1, c2⟩ := Qhh f pb t true
 obtain ⟨s1, h1, e1, ⟨rfl, r2, r3⟩, m1⟩ := Q5s (V := s.locs.length) H (fun _ _ _ h => h.2.2) t.size t (Nat.le_refl _) ht true [] (s.addLoc (.var [.val (rebFn g caps s.locs.length)])) ⟨rfl, hQ _ _ hs (fun i x => g0.loc), h0⟩ (c2 rfl hp)
 rw [c1] at e1
 have q1 := Zb (t := C.ti Qi) (off := 0) h0
 rw [Q7U]
 simp only [rebFn] at e1 q1
 simp only [go_sem, Nat.reduceAdd, Nat.reduceLeDiff, Ty.enc, rebFn, q1, e1] at e1 ⊢
 exact ⟨s1, rfl, g0.trans m1.toGrew⟩
theorem Zf (vars : Int) (t : Ty) (s : St) (h : t.size < 2^40) (hn : NamesTy t) : Ret (cw (.f Z6) [.agg (.int .i64 vars :: t.cells)] s) s (.bool (rightTyB t && (decide (vars ≥ 0) && decide (vars ≤ 256)))) := by
 obtain ⟨s1, e1, g1⟩ := Q3C t s h hn
 have c := Ty.cells_eq t
 rw [Qaa]
 simp only [go_sem, Nat.reduceAdd, Nat.reduceLeDiff, c, Ty.enc] at e1 ⊢
 cases hr : rightTyB t with
 | false => rw [hr] at e1; simp only [go_sem, e1]; exact ⟨s1, rfl, g1⟩
 | true =>
   rw [hr] at e1
   cases hv : decide (vars ≥ 0) with
   | false => simp only [go_sem, e1, hv]; exact ⟨s1, rfl, g1⟩
   | true => simp only [go_sem, e1, hv]; exact ⟨s1, rfl, g1⟩
end Go.Proofs.YtobelgghegmhhaaGreatDoor
namespace Go.Am
open Go
def showF (vars n : Int) : Ty := bif decide (n < vars) then tvar n else ofTy (95 :: (letT ((n - vars) % 26) ++ bif decide ((n - vars) / 26 = 0) then [] else Go.Lib.itoa ((n - vars) / 26))) []
def rightSB (vars : Int) (t : Ty) : Bool := rightTyB t && (decide (vars ≥ 0) && decide (vars ≤ 256))
def schemeT (vars : Int) (t : Ty) : Str := bif rightSB vars t then typeT (rebT (showF vars) t) else []
theorem QgR {n : Int} (h0 : 0 ≤ n) (h : n ≤ 1000) : typeT (tvar n) = 39 :: letT n := by
 have h1 : toldB (tvar n) = true := by
  simp [toldB, tvar, allTy, allTys, tellB, Ty.size, Ty.sizes, Ty.kind, Ty.n, Ty.name, Ty.args, h0, h]
 unfold typeT
 rw [h1]
 simp [tvar, typT, textB, textGo, sepB]
mutual
theorem Q4N (f : Int → Ty) (hf : ∀ n, (f n).size = 1) : ∀ t : Ty, (rebT f t).size ≤ t.size
 | .mk k n s l b => by
   have := Q9U f hf l
   simp only [rebT]
   cases decide (k = 1) with
   | true => simp only [cond_true, hf, Ty.size]; omega
   | false => simp only [cond_false, Ty.size]; omega
theorem Q9U (f : Int → Ty) (hf : ∀ n, (f n).size = 1) : ∀ l : List Ty, Ty.sizes (rebTs f l) ≤ Ty.sizes l
 | [] => by simp [rebTs, Ty.sizes]
 | t :: l => by
   have h1 := Q4N f hf t
   have h2 := Q9U f hf l
   simp only [rebTs, Ty.sizes]; omega
end
end Go.Am
namespace Go.Proofs.YtobelgghegmhhaaGreatDoor
open Go Go.Am
set_option linter.unusedVariables false
set_option maxRecDepth 4000
theorem Qia (a b : Str) (h : b.length ≤ a.length) (hp : a.take b.length = b) (s : St) : cw (.f Q0M) [.str a, .str b] s = some (.ret (.val (.str (a.drop b.length))), s) := by
 have hb' : decide ((a.length : Int) ≥ (b.length : Int)) = true := by simpa using h
 have h0 : cw (.f Qw) [.str a, .str b] s = some (.ret (.val (.bool true)), s) := by
  rw [ZN]
  simp only [go_sem, hb', Q3o Qh h, hp, decide_true]
 have h1 : cw (.f QZ) [.str a, .str b] s = some (.ret (.val (.str (a.drop b.length))), s) := by
  rw [Q1K]
  simp only [go_sem, h0, Q8t Qh h]
 rw [Q5G]
 simp only [go_sem, h1]
theorem QgB (vars n : Int) : (showF vars n).size = 1 := by
 unfold showF
 cases decide (n < vars) <;> rfl
theorem QgJ (n : Int) : NamesTy (tvar n) := by
 intro nd hn
 simp only [tvar, nodesTy, nodesTys, List.mem_singleton] at hn
 subst hn
 show ([] : Str).length < 2^40
 decide
theorem Q7l (vars : Int) (t : Ty) (hv : 0 ≤ vars ∧ vars ≤ 256) (n : Int) (hn : 0 ≤ n ∧ n ≤ 9223372036854775807) (s : St) : Ret (cw (.f Q1h) [.int .i64 n, .cp (.int .i64 vars :: t.cells)] s) s (showF vars n).enc := by
 rw [Q92]
 unfold showF
 cases hd : decide (n < vars) with
 | true =>
   have e1 := Q0T n s
   simp only [go_sem, Int.reduceEq, Nat.reduceAdd, Nat.reduceLeDiff, ne_eq, not_false_eq_true, hd, e1, Ty.enc, tvar]
   exact Ret.same _ _
 | false =>
   have hd' := of_decide_eq_false hd
   have w1 : IntKind.i64.wrap (n - vars) = n - vars := wrap64 (by omega) (by omega)
   have a1 : (n - vars).tmod 26 = (n - vars) % 26 := Int.tmod_eq_emod_of_nonneg (by omega)
   have a2 : (n - vars).tdiv 26 = (n - vars) / 26 := Int.tdiv_eq_ediv_of_nonneg (by omega)
   have w2 : IntKind.i64.wrap ((n - vars) / 26) = (n - vars) / 26 := wrap64 (by omega) (by omega)
   have e1 := fun s => Q0T ((n - vars) % 26) s
   obtain ⟨s1, e2, g1⟩ := Q5C (tvar ((n - vars) % 26)) s (show (1 : Nat) < 2^40 by decide) (QgJ _)
   rw [QgR (by omega) (by omega)] at e2
   have e3 := Qia (39 :: letT ((n - vars) % 26)) [39] (by simp) rfl s1
   have e4 := Q94 ((n - vars) / 26) (by omega) s1
   have k1 := QdC (n := (n - vars) % 26) (by omega) (by omega)
   have k2 : (restT ((n - vars) / 26)).length ≤ 21 := by
    unfold restT
    have := Go.Lib.itoa_length_le ((n - vars) / 26) (by omega) (by omega)
    cases decide ((n - vars) / 26 = 0) <;> simp <;> omega
   obtain ⟨s2, e5, g2⟩ := QgK (95 :: (letT ((n - vars) % 26) ++ restT ((n - vars) / 26))) [] .nils rfl (by decide) (by intro t ht; cases ht) s1
   rw [show ((39 :: letT ((n - vars) % 26)) : Str).drop ([39] : Str).length = letT ((n - vars) % 26) from rfl] at e3
   have b1 : binS (C.ti Q2) .add (.val (.str [95])) (.val (.str (letT ((n - vars) % 26)))) = some (.val (.str (95 :: letT ((n - vars) % 26)))) := QP (by simp; omega)
   have b2 : binS (C.ti Q2) .add (.val (.str (95 :: letT ((n - vars) % 26)))) (.val (.str (restT ((n - vars) / 26)))) = some (.val (.str (95 :: (letT ((n - vars) % 26) ++ restT ((n - vars) / 26))))) := QP (by simp; omega)
   simp only [Ty.enc, ofTy, List.map_nil] at e1 e2 e5
   simp only [go_sem, Int.reduceEq, Nat.reduceAdd, Nat.reduceLeDiff, ne_eq, not_false_eq_true, hd, w1, a1, a2, w2, e1, e2, e3, e4, b1, b2, e5]
   refine ⟨s2, ?_, g1.trans g2⟩
   rfl
theorem Q93 (vars : Int) (t : Ty) (s : St) (h : t.size < 2^28) (hn : NamesTy t) (hw : WideTy t) (hN : NamesTy (rebT (showF vars) t)) (hp : allTy (varB fun n => decide (0 ≤ n) && decide (n ≤ 9223372036854775807)) t = true) :
  Ret (cw (.f ZW) [.agg (.int .i64 vars :: t.cells)] s) s (.str (schemeT vars t)) := by
 obtain ⟨s1, e1, g1⟩ := Zf vars t s (by omega) hn
 have c := Ty.cells_eq t
 rw [Q5A]
 unfold schemeT
 change cw _ _ _ = some (.ret (.val (.bool (rightSB vars t))), s1) at e1
 cases hr : rightSB vars t with
 | false =>
   rw [hr] at e1
   simp only [go_sem, Nat.reduceAdd, Nat.reduceLeDiff, c] at e1 ⊢
   simp only [go_sem, e1]
   exact ⟨s1, rfl, g1⟩
 | true =>
   rw [hr] at e1
   unfold rightSB at hr
   simp only [Bool.and_eq_true, decide_eq_true_eq] at hr
   have hsz := Q4N (showF vars) (QgB vars) t
   obtain ⟨s2, e2, g2⟩ := Q2Q (showF vars) (fun n => decide (0 ≤ n) && decide (n ≤ 9223372036854775807)) Q1h [.cp (.int .i64 vars :: t.cells)] (by kernel_rfl) (fun _ => True) (fun _ _ _ _ => trivial)
    (fun n s _ hb => Q7l vars t hr.2 n (by simpa using hb) s) t hw hp s1 trivial
   obtain ⟨s3, e3, g3⟩ := Q5C (rebT (showF vars) t) s2 (by omega) hN
   simp only [go_sem, Nat.reduceAdd, Nat.reduceLeDiff, c, Ty.enc] at e1 e2 e3 ⊢
   simp only [go_sem, e1, e2, e3]
   exact ⟨s3, rfl, (g1.trans g2).trans g3⟩
end Go.Proofs.YtobelgghegmhhaaGreatDoor
namespace Go.Am
open Go
def zeroTy : Ty := .mk 0 0 [] [] true
def instT (vars : Int) (t : Ty) (l : List Ty) : Ty × Int :=
 bif !rightSB vars t || (!decide ((l.length : Int) = vars) || !l.all rightTyB) then (zeroTy, 1)
 else bif decide ((putTy t l).size > 256) then (zeroTy, 4) else (putTy t l, 0)
end Go.Am
namespace Go.Proofs.YtobelgghegmhhaaGreatDoor
open Go Go.Am
set_option linter.unusedVariables false
set_option maxRecDepth 4000
theorem Qbz (l : List Ty) (x : Slot) (hx : x.list? = some (l.map Ty.enc)) (hl : l.length < 2^40) (hn : ∀ t ∈ l, t.size < 2^40 ∧ NamesTy t) : ∀ (suf pre : List Ty) (s : St) (i : Nat), pre ++ suf = l → i = pre.length →
  ∃ s' r, Qq x (.val (.fn Zt [])) (.val (.int .i64 l.length)) (.val (.int .i64 i)) s = some (.ret (.val (.int .i64 r)), s') ∧ (decide (r ≥ 0) = !suf.all rightTyB) ∧ Grew s s'
 | [], pre, s, i, h, hi => by
   subst hi
   refine ⟨s, -1, ?_, rfl, .refl s⟩
   rw [Qr]; simp only [go_sem, Int.reduceNeg, Qf (by simpa using h)]
 | t :: suf, pre, s, i, h, hi => by
   subst hi
   obtain ⟨f1, f2, f3⟩ := Qc hx h (by omega) (Ty.cells_len t) (by decide)
   obtain ⟨h1, h2⟩ := hn t (by rw [← h]; simp)
   obtain ⟨s1, e1, g1⟩ := Q3C t s h1 h2
   have e2 : cw (.f Zt) [t.enc] s = some (.ret (.val (.bool (!rightTyB t))), s1) := by
    rw [Q8Z]
    simp only [go_sem, Nat.reduceLeDiff, e1]
   rw [Qr]
   simp only [go_sem, Int.reduceNeg, Nat.reduceLeDiff, f1, f2, f3, e2]
   cases hr : rightTyB t with
   | true =>
     obtain ⟨s2, r, e3, d3, g3⟩ := Qbz l x hx hl hn suf (pre ++ [t]) s1 (pre.length + 1) (by simpa using h) (by simp)
     exact ⟨s2, r, by simp only [go_sem, e3], by rw [d3, List.all_cons, hr, Bool.true_and], g1.trans g3⟩
   | false =>
     refine ⟨s1, pre.length, by simp only [go_sem], ?_, g1⟩
     rw [List.all_cons, hr]
     simp
theorem Q90 (vars : Int) (t : Ty) (l : List Ty) (nl : Bool) (s : St) (h : t.size < 2^28) (hn : NamesTy t) (hw : WideTy t) (hl : l.length < 2^28) (hls : ∀ u ∈ l, u.size < 2^40 ∧ NamesTy u ∧ WideTy u) (hz : (putTy t l).size < 2^40) :
  Ret (cw (.f Q3v) [.agg (.int .i64 vars :: t.cells), encS nl (l.map Ty.enc)] s) s (.tup [(instT vars t l).1.enc, .int .i64 (instT vars t l).2]) := by
 obtain ⟨s1, e1, g1⟩ := Zf vars t s (by omega) hn
 have c := Ty.cells_eq t
 change cw _ _ _ = some (.ret (.val (.bool (rightSB vars t))), s1) at e1
 have z1 : ∀ k : Int, ∀ s' : St, Grew s s' → Ret (some (.ret (.val (.tup [zeroTy.enc, .int .i64 k])), s')) s (.tup [zeroTy.enc, .int .i64 k]) := fun k s' g => ⟨s', rfl, g⟩
 rw [Qb0]
 unfold instT
 cases hr : rightSB vars t with
 | false =>
   rw [hr] at e1
   simp only [go_sem, Nat.reduceAdd, Nat.reduceLeDiff, c] at e1 ⊢
   simp only [go_sem, e1, Qa]
   exact z1 1 s1 g1
 | true =>
   rw [hr] at e1
   cases hv : decide ((l.length : Int) = vars) with
   | false =>
     simp only [go_sem, Nat.reduceAdd, Nat.reduceLeDiff, c] at e1 ⊢
     simp only [go_sem, e1, Qa, List.length_map, hv]
     exact z1 1 s1 g1
   | true =>
     obtain ⟨s2, r, e2, d2, g2⟩ := Qbz l (.val (encS nl (l.map Ty.enc))) (Qa _ _) (by omega) (fun u hu => ⟨(hls u hu).1, (hls u hu).2.1⟩) l [] s1 0 rfl rfl
     have e4 : cw (.f Qm) [encS nl (l.map Ty.enc), .fn Zt []] s1 = some (.ret (.val (.bool (decide (r ≥ 0)))), s2) := by
      rw [Zh]
      have : cw (.f QI) [encS nl (l.map Ty.enc), .fn Zt []] s1 = some (.ret (.val (.int .i64 r)), s2) := by
       rw [ZD]; simp only [go_sem]
       exact e2
      simp only [go_sem, this]
     rw [d2] at e4
     cases ha : l.all rightTyB with
     | false =>
       rw [ha] at e4
       simp only [go_sem, Nat.reduceAdd, Nat.reduceLeDiff, c] at e1 ⊢
       simp only [go_sem, e1, Qa, List.length_map, hv, e4]
       exact z1 1 s2 (g1.trans g2)
     | true =>
       rw [ha] at e4
       obtain ⟨s3, e5, g3⟩ := Qfj t l nl s2 hw (by omega) (fun u hu => (hls u hu).2.2)
       have e6 := Q7A (putTy t l).size (putTy t l) s3 (Nat.le_refl _) hz
       have cp := Ty.cells_eq (putTy t l)
       simp only [go_sem, Nat.reduceAdd, Nat.reduceLeDiff, c, cp, Ty.enc] at e1 e5 e6 ⊢
       simp only [go_sem, Nat.reduceAdd, Nat.reduceLeDiff, e1, Qa, List.length_map, hv, e4, e5, e6]
       have hg : decide (((putTy t l).size : Int) > 256) = decide ((putTy t l).size > 256) := by
        by_cases hq : (putTy t l).size > 256
        ·rw [decide_eq_true hq, decide_eq_true (by omega)]
        ·rw [decide_eq_false hq, decide_eq_false (by omega)]
       cases hc : decide ((putTy t l).size > 256) with
       | true =>
         rw [hc] at hg
         simp only [go_sem, hg]
         exact z1 4 s3 ((g1.trans g2).trans g3)
       | false =>
         rw [hc] at hg
         simp only [go_sem, hg]
         refine ⟨s3, ?_, (g1.trans g2).trans g3⟩
         simp only [Bool.not_true, Bool.or_self, cond_false, Ty.enc, cp]
end Go.Proofs.YtobelgghegmhhaaGreatDoor
namespace Go.Proofs.YtobelgghegmhhaaGreatDoor
open Go Go.Am
set_option linter.unusedVariables false
theorem Q7Q (n : Int) (c : Bool) (s : St) : cw (.f Q2R) [.int .u8 n, .bool c] s = some (.ret (.val (.bool (letterR n c))), s) := by
 rw [Qa0]; cases c <;> simp only [go_sem] <;> rfl
theorem Qa1 (n : Int) (s : St) : cw (.f Q49) [.int .u8 n] s = some (.ret (.val (.bool (restR n))), s) := by
 rw [Qcv]; simp only [go_sem]; rfl
theorem Q7R (l : Str) (pre : Str) : ∀ (suf : Str) (s : St), pre ++ suf = l → l.length < 2^62 → Zx (.val (.str l)) (.val (.int .i64 pre.length)) s = some (.ret (.val (.bool (suf.all fun c => restR c.toNat))), s) := by
 intro suf
 induction suf generalizing pre with
 | nil =>
   intro s h hl
   rw [List.append_nil] at h
   subst h
   rw [Q3j]; simp only [Qd1, QcZ, Q62 Qh, Q3R, Q5S, Q3T]
   rw [QaH (by simp)]
   rfl
 | cons c suf ih =>
   intro s h hl
   have hc : l[pre.length]? = some c := by rw [← h]; simp
   have hlt : pre.length < l.length := by rw [← h]; simp
   have := ih (pre ++ [c]) s (by simp [h]) hl
   rw [Q3j]
   simp only [Qd1, QcZ, Q62 Qh, Q3R, Q5S, Q3T]
   rw [QaI (by simpa using hlt), Q0Q Qh hc]
   simp only [go_sem, Qa1]
   rw [wrap64 (by omega) (by omega)]
   have e : (pre.length : Int) + 1 = ((pre ++ [c]).length : Int) := by simp
   rw [e, this]
   simp only [go_sem, List.all_cons]
   cases restR c.toNat <;> rfl
theorem Q7S (l : Str) (c : Bool) (s : St) (hl : l.length < 2^62) : cw (.f Q1y) [.str l, .bool c] s = some (.ret (.val (.bool (shapedR l c))), s) := by
 rw [Qa2]
 cases l with
 | nil => simp only [go_sem]; rfl
 | cons x l =>
   have h := Q7R (x :: l) [x] l s rfl hl
   simp only [go_sem, List.length_singleton] at h
   simp only [go_sem, Q7Q, ZM Qh (List.cons_ne_nil x l)]
   have h' : Zx (.val (.str (x :: l))) (.val (.int .i64 1)) s = some (.ret (.val (.bool (l.all fun c => restR c.toNat))), s) := h
   rw [h']
   show ifR _ _ _ = some (Out.ret (.val (.bool (!(decide (((l.length + 1 : Nat) : Int) < 1) || decide (((l.length + 1 : Nat) : Int) > 32) || !letterR (((x :: l).headD 0).toNat : Int) c) && (l.all fun c => restR c.toNat)))), s)
   generalize (decide (((l.length + 1 : Nat) : Int) < 1) || decide (((l.length + 1 : Nat) : Int) > 32) || !letterR (((x :: l).headD 0).toNat : Int) c) = b
   cases b <;> rfl
theorem Q8U (s : St) : cw (.f Q3t) [] s = some (.ret (.full (wordsR.map .str)), s) := by
 rw [QaR]; simp only [go_sem, Nat.reduceAdd]; rfl
theorem Q8V (x : Str) (l : List Str) (pre : List Str) : ∀ (suf : List Str) (y : Slot) (s : St), y.list? = some (l.map .str) → pre ++ suf = l → l.length < 2^62 → Q0z (.val (.str x)) y (.val (.int .i64 pre.length)) s = some (.ret (.val (.bool (amongR x suf))), s) := by
 intro suf
 induction suf generalizing pre with
 | nil =>
   intro y s hy h hl
   rw [List.append_nil] at h
   subst h
   rw [Q3F]; simp only [go_sem, hy]
   rw [QaH (by simp)]
   rfl
 | cons c suf ih =>
   intro y s hy h hl
   have hc : (l.map AV.str)[pre.length]? = some (.str c) := by rw [← h]; simp
   have hlt : pre.length < l.length := by rw [← h]; simp
   have := ih (pre ++ [c]) y s hy (by simp [h]) hl
   rw [Q3F]
   simp only [go_sem, hy]
   rw [QaI (by simpa using hlt), Q18 (sz := 1) hy hc rfl (by decide)]
   simp only [go_sem, Nat.reduceAdd, Nat.reduceLeDiff]
   rw [wrap64 (by omega) (by omega)]
   have e : (pre.length : Int) + 1 = ((pre ++ [c]).length : Int) := by simp
   rw [e, this]
   simp only [go_sem, amongR, List.any_cons]
   cases decide (c = x) <;> rfl
theorem Q8W (x : Str) (l : List Str) (s : St) (hl : l.length < 2^62) (nl : Bool) : cw (.f Q1W) [.str x, encS nl (l.map .str)] s = some (.ret (.val (.bool (amongR x l))), s) := by
 rw [QaS]
 exact Q8V x l [] l _ s (by simp only [go_sem]) rfl hl
theorem QaQ (l : Str) (s : St) (hl : l.length < 2^62) : cw (.f Q55) [.str l] s = some (.ret (.val (.bool (lowR l))), s) := by
 rw [Qea]
 have h := fun s => Q8W l wordsR s (by decide) false
 rw [Q9x] at h
 simp only [go_sem, Q7S l _ _ hl, Q8U, h]
 rfl
end Go.Proofs.YtobelgghegmhhaaGreatDoor
namespace Go.Am
open Go
theorem Qdi (sub : List UInt8) : Go.Lib.contains [] sub = sub.isEmpty := by
 unfold Go.Lib.contains Go.Lib.index
 cases sub.isEmpty <;> rfl
theorem Q3x (c : UInt8) (s sub : List UInt8) : Go.Lib.contains (c :: s) sub = (sub.isPrefixOf (c :: s) || Go.Lib.contains s sub) := by
 have h := Go.Lib.index_ge s sub
 unfold Go.Lib.contains
 rw [Go.Lib.index]
 cases sub.isPrefixOf (c :: s) with
 | true => rfl
 | false =>
   simp only [Bool.false_eq_true, if_false, Bool.false_or]
   by_cases h1 : Go.Lib.index s sub = -1
   ·rw [h1]; rfl
   ·have h2 : (Go.Lib.index s sub == -1) = false := by simpa using h1
    rw [h2]
    simp only [Bool.false_eq_true, if_false]
    congr 1
    rw [eq_iff_iff]
    omega
theorem Qc1 : ∀ (w T x : List UInt8), (∀ c ∈ w, c ≠ 32) → Go.Lib.contains (w ++ T) (32 :: x) = Go.Lib.contains T (32 :: x)
 | [], _, _, _ => rfl
 | c :: w, T, x, h => by
   have hc : ((32 : UInt8) == c) = false := by have := h c (by simp); rw [beq_eq_false_iff_ne]; exact fun e => this e.symm
   rw [List.cons_append, Q3x, List.isPrefixOf, hc, Bool.false_and, Bool.false_or]
   exact Qc1 w T x fun d hd => h d (List.mem_cons_of_mem _ hd)
theorem Q8o : ∀ (l w T : List UInt8), (∀ c ∈ l, c ≠ 32) → (∀ c ∈ w, c ≠ 32) → (l ++ [32]).isPrefixOf (w ++ 32 :: T) = decide (l = w)
 | [], [], T, _, _ => by simp [List.isPrefixOf]
 | [], c :: w, T, _, h => by
   have hc : ((32 : UInt8) == c) = false := by have := h c (by simp); rw [beq_eq_false_iff_ne]; exact fun e => this e.symm
   simp [List.isPrefixOf, hc]
 | a :: l, [], T, h, _ => by
   have hc : (a == (32 : UInt8)) = false := by have := h a (by simp); rw [beq_eq_false_iff_ne]; exact this
   simp [List.isPrefixOf, hc]
 | a :: l, c :: w, T, h, g => by
   have ih := Q8o l w T (fun d hd => h d (List.mem_cons_of_mem _ hd)) (fun d hd => g d (List.mem_cons_of_mem _ hd))
   rw [List.cons_append, List.cons_append, List.isPrefixOf, ih]
   by_cases hac : a = c
   ·subst hac; simp
   ·have : (a == c) = false := by rw [beq_eq_false_iff_ne]; exact hac
    simp [this, hac]
theorem QfX (l : Str) (hl : ∀ c ∈ l, c ≠ 32) : ∀ ws : List Str, (∀ w ∈ ws, ∀ c ∈ w, c ≠ 32) → Go.Lib.contains (32 :: (ws.flatMap fun w => w ++ [32])) (32 :: (l ++ [32])) = ws.any fun w => decide (l = w)
 | [], _ => by
   rw [List.flatMap_nil, Q3x, Qdi]
   cases l <;> simp [List.isPrefixOf]
 | w :: ws, h => by
   have hw := h w (by simp)
   have e : (w :: ws).flatMap (fun w => w ++ [32]) = w ++ 32 :: (ws.flatMap fun w => w ++ [32]) := by simp
   rw [e, Q3x, List.isPrefixOf, beq_self_eq_true, Bool.true_and, Q8o l w _ hl hw, Qc1 w _ _ hw, QfX l hl ws fun v hv => h v (List.mem_cons_of_mem _ hv), List.any_cons]
def wordsAll : List Str := wordsR ++ [[116, 114, 117, 101], [102, 97, 108, 115, 101], [95]]
theorem QjK : wordsS = 32 :: (wordsAll.flatMap fun w => w ++ [32]) := by decide +kernel
theorem Qfp : ∀ w ∈ wordsAll, ∀ c ∈ w, c ≠ 32 := by decide +kernel
theorem QkF (n : Int) : restR n = !unrestB n := by
 simp only [restR, unrestB, smallB, greatB]
 by_cases h1 : n ≥ 97 <;> by_cases h2 : n ≤ 122 <;> by_cases h3 : n = 95 <;> by_cases h4 : n ≥ 65 <;> by_cases h5 : n ≤ 90 <;> by_cases h6 : n < 48 <;> by_cases h7 : n > 57 <;> by_cases h8 : n = 39 <;> simp [h1, h2, h3, h4, h5, h6, h7, h8] <;> omega
theorem QbX (l : Str) (cap : Bool) : shapedR l cap = (!decide (l = []) && letterR (headB l) cap && runB l) := by
 have e : ((l.drop 1).all fun c => restR c.toNat) = restAll (l.drop 1) := by
  unfold restAll
  congr 1
  funext c
  exact QkF _
 unfold shapedR runB
 rw [e]
 have e1 : decide ((l.length : Int) < 1) = decide (l = []) := by cases l <;> simp; omega
 have e2 : decide ((l.length : Int) > 32) = !decide (l.length ≤ 32) := by
  by_cases h : l.length ≤ 32
  ·rw [decide_eq_true h, decide_eq_false (by omega)]; rfl
  ·rw [decide_eq_false h, decide_eq_true (by omega)]; rfl
 rw [e1, e2]
 cases decide (l = []) <;> cases decide (l.length ≤ 32) <;> cases letterR (headB l) cap <;> cases restAll (l.drop 1) <;> rfl
theorem Qj7 (l : Str) (h : shapedR l false = true) : ∀ c ∈ l, c ≠ 32 := by
 rw [QbX] at h
 simp only [Bool.and_eq_true] at h
 obtain ⟨⟨h0, h1⟩, h2⟩ := h
 cases l with
 | nil => intro c hc; cases hc
 | cons a l =>
   intro c hc e
   subst e
   rcases List.mem_cons.1 hc with rfl | hc
   ·change letterR 32 false = true at h1
    revert h1; decide
   ·simp only [runB, Bool.and_eq_true, restAll, List.drop_one, List.tail_cons, List.all_eq_true] at h2
    have := h2.1 32 hc
    revert this; decide
theorem QmA (l : Str) : lowR l = lowB l := by
 unfold lowR
 have e : lowB l = (shapedR l false && !Go.Lib.contains wordsS (32 :: (l ++ [32]))) := by rw [QbX]; rfl
 rw [e]
 cases hs : shapedR l false with
 | false => rfl
 | true =>
   rw [QjK, QfX l (Qj7 l hs) wordsAll Qfp]
   unfold wordsAll amongR
   rw [List.any_append]
   have e3 : (wordsR.any fun w => decide (w = l)) = wordsR.any fun w => decide (l = w) := by congr 1; funext w; congr 1; rw [eq_iff_iff]; exact eq_comm
   rw [e3]
   simp only [List.any_cons, List.any_nil]
   cases (wordsR.any fun w => decide (l = w)) <;> cases decide (l = [95]) <;> cases decide (l = [116, 114, 117, 101]) <;> cases decide (l = [102, 97, 108, 115, 101]) <;> rfl
end Go.Am
namespace Go.Proofs.YtobelgghegmhhaaGreatDoor
open Go Go.Am
set_option linter.unusedVariables false
set_option maxRecDepth 4000
def argsR (nm : Str) : Int × Int :=
 bif decide (nm = [105, 110, 116]) || decide (nm = [98, 111, 111, 108]) || decide (nm = [117, 110, 105, 116]) || decide (nm = [101, 120, 110]) then (0, 0) else bif decide (nm = [114, 101, 102]) then (1, 1) else bif decide (nm = [45, 62]) then (2, 2) else bif decide (nm = [42]) then (2, 8) else (0, 8)
theorem Q9Y (nm : Str) (s : St) : cw (.f Q2o) [.str nm] s = some (.ret (.val (.tup [.int .i64 (argsR nm).1, .int .i64 (argsR nm).2])), s) := by
 rw [Qct]
 simp only [go_sem, Q8T]
 delta argsR
 generalize decide (nm = [105, 110, 116]) = x1
 generalize decide (nm = [98, 111, 111, 108]) = x2
 generalize decide (nm = [117, 110, 105, 116]) = x3
 generalize decide (nm = [101, 120, 110]) = x4
 generalize decide (nm = [114, 101, 102]) = x5
 generalize decide (nm = [45, 62]) = x6
 generalize decide (nm = [42]) = x7
 cases x1 <;> cases x2 <;> cases x3 <;> cases x4 <;> cases x5 <;> cases x6 <;> cases x7 <;> rfl
end Go.Proofs.YtobelgghegmhhaaGreatDoor
namespace Go.Proofs.YtobelgghegmhhaaGreatDoor
open Go Go.Am
set_option linter.unusedVariables false
set_option maxRecDepth 4000
abbrev Nodes (r : Res) (s : St) (l : List TNode) : Prop := RetA r Ql s (l.map TNode.enc)
abbrev NAcc (s0 s : St) (x : Slot) (l : List TNode) : Prop := AccR Ql s0 s x (l.map TNode.enc)
theorem nacc {s0 s : St} {x y : Slot} {A B : List TNode} (h : NAcc s0 s x A) (hy : y.list? = some (B.map TNode.enc)) (b : A.length + B.length < 2^30) : ∃ x' s', appendS Ql (C.ti Ql) s x y = some (x', s') ∧ NAcc s0 s' x' (A ++ B) :=
 AccR.appendF h hy (fun a => by rw [Q3D]; exact TNode.cells_len a) (by rw [Q3D]; decide) b (by rw [Q6H]; decide)
theorem Q4O (a : Int) (t : Ty) (hl : t.args.length < 2^40) (s0 : St) : ∀ (suf pre : List Ty) (A : List TNode) (x : Slot) (s : St) (i : Nat), NAcc s0 s x A → pre ++ suf = t.args → i = pre.length → (∀ t ∈ suf, ∀ s, Nodes (cw (.f Za) [t.enc, .int .i64 a] s) s (nodesTy a t)) → A.length + Ty.sizes suf < 2^30 →
  Nodes (Q0Y (.val (.int .i64 a)) (t.cells.map .val) x (.val (.int .i64 i)) s) s0 (A ++ nodesTys a suf)
 | [], pre, A, x, s, i, hx, h, hi, H, hb => by
   subst hi
   rw [Q4m]; simp only [go_sem, Nat.reduceAdd, Nat.reduceLeDiff, Ty.cells_eq, Qf (by simpa using h), nodesTys]
   exact RetA.mk hx
 | u :: suf, pre, A, x, s, i, hx, h, hi, H, hb => by
   subst hi
   obtain ⟨f1, f2, f3⟩ := Qc (x := .val (encS t.nl (t.args.map Ty.enc))) (Qa _ _) h (by omega) (Ty.cells_len u) (by decide)
   obtain ⟨y, s1, e1, g1⟩ := H u (List.mem_cons_self) s
   have hlen := Q5a a u
   simp only [Ty.sizes] at hb
   obtain ⟨x', s2, e2, g2⟩ := nacc (hx.move g1.grew) g1.list? (by omega)
   have := Q4O a t hl s0 suf (pre ++ [u]) (A ++ nodesTy a u) x' s2 (pre.length + 1) g2 (by simpa using h) (by simp) (fun w hw => H w (List.mem_cons_of_mem _ hw)) (by rw [List.length_append]; omega)
   rw [Q4m]; rw [Ty.cells_eq] at this ⊢; simp only [go_sem, Nat.reduceAdd, Nat.reduceLeDiff, f1, f2, f3, e1, e2] at this ⊢
   simp only [nodesTys]
   exact this
theorem Q4P : ∀ (m : Nat) (a : Int) (t : Ty) (s : St), t.size ≤ m → t.size < 2^28 → Nodes (cw (.f Za) [t.enc, .int .i64 a] s) s (nodesTy a t)
 | 0, a, .mk _ _ _ _ _, _, h, _ => by simp only [Ty.size] at h; omega
 | m + 1, a, .mk k n nm l nl, s, h, h' => by
   simp only [Ty.size] at h h'
   have hl := Ty.len_sizes l
   have := Q4O a (.mk k n nm l nl) (by simp only [Ty.args]; omega) s l [] [.ty (.mk k n nm l nl) a] (.full [(TNode.ty (.mk k n nm l nl) a).enc]) s 0 (AccR.full _ _ _) rfl rfl (fun u hu s => by have := Ty.mem_sizes hu; exact Q4P m a u s (by omega) (by omega)) (by simp only [List.length_singleton]; omega)
   rw [Qcu]; simp only [go_sem, Nat.reduceAdd, Nat.reduceLeDiff, Ty.enc, TNode.cells, Dec.zero, Exp.zero, Pat.zero, Fun.zero, Case.zero, Con.zero, Ty.zero, Con.cells, TNode.enc, nodesTy] at this ⊢
   exact this
end Go.Proofs.YtobelgghegmhhaaGreatDoor
namespace Go.Am
open Go
@[go_sem] theorem Qtf (b : Bool) (sz : Nat) (x : Slot) (r : List Slot) : gd b (fullO (bslS sz (gdV b x :: r))) = gd b (fullO (bslS sz (x :: r))) := by cases b <;> rfl
end Go.Am
namespace Go.Proofs.YtobelgghegmhhaaGreatDoor
open Go Go.Am
set_option linter.unusedVariables false
set_option maxRecDepth 4000
theorem QkH {α : Type} {L M pre pre' suf' : List α} (h : pre ++ [] = L) (g : pre' ++ suf' = M) (hp : pre'.length = pre.length) (he : M.length = L.length) : suf' = [] := by
 have h1 := congrArg List.length h
 have h2 := congrArg List.length g
 simp only [List.length_append, List.length_nil] at h1 h2
 exact List.eq_nil_of_length_eq_zero (by omega)
theorem Qju {α : Type} {L M pre pre' suf suf' : List α} {t : α} (h : pre ++ t :: suf = L) (g : pre' ++ suf' = M) (hp : pre'.length = pre.length) (he : M.length = L.length) : ∃ u r, suf' = u :: r := by
 have h1 := congrArg List.length h
 have h2 := congrArg List.length g
 simp only [List.length_append, List.length_cons] at h1 h2
 cases suf' with
 | nil => simp only [List.length_nil] at h2; omega
 | cons u r => exact ⟨u, r, rfl⟩
def RSameTy (t : Ty) : Prop := ∀ u s, cw (.f Q0p) [t.enc, u.enc] s = some (.ret (.val (.bool (eqTy t u))), s)
theorem Q6s (t u : Ty) (hl : t.args.length < 2^40) (he : u.args.length = t.args.length) : ∀ (suf suf' pre pre' : List Ty) (s : St) (i : Nat), pre ++ suf = t.args → pre' ++ suf' = u.args → i = pre.length → pre'.length = pre.length → (∀ t ∈ suf, RSameTy t) →
  Q09 (t.cells.map .val) (u.cells.map .val) (.val (.int .i64 i)) s = some (.ret (.val (.bool (eqTys suf suf'))), s)
 | [], suf', pre, pre', s, i, h, g, hi, hp, H => by
   subst hi
   obtain rfl := QkH h g hp he
   rw [Q3i]; simp only [go_sem, Nat.reduceAdd, Nat.reduceLeDiff, Ty.cells_eq, Qf (by simpa using h), eqTys]
 | x :: suf, suf', pre, pre', s, i, h, g, hi, hp, H => by
   subst hi
   obtain ⟨y, suf', rfl⟩ := Qju h g hp he
   obtain ⟨f1, f2, f3⟩ := Qc (x := .val (encS t.nl (t.args.map Ty.enc))) (Qa _ _) h (by omega) (Ty.cells_len x) (by decide)
   obtain ⟨-, g2, -⟩ := Qc (x := .val (encS u.nl (u.args.map Ty.enc))) (Qa _ _) g (by omega) (Ty.cells_len y) (by decide)
   rw [hp] at g2
   have e1 := H x (List.mem_cons_self) y s
   have ih := Q6s t u hl he suf suf' (pre ++ [x]) (pre' ++ [y]) s (pre.length + 1) (by simpa using h) (by simpa using g) (by simp) (by simp [hp]) (fun w hw => H w (List.mem_cons_of_mem _ hw))
   rw [Q3i]; rw [Ty.cells_eq, Ty.cells_eq] at ih ⊢; simp only [go_sem, Nat.reduceAdd, Nat.reduceLeDiff, f1, f2, f3, g2, e1] at ih ⊢
   simp only [go_sem, ih, eqTys]
   cases eqTy x y <;> rfl
theorem Q7k : ∀ (m : Nat) (t : Ty), t.size ≤ m → t.size < 2^40 → RSameTy t
 | 0, .mk _ _ _ _ _, h, _ => by simp only [Ty.size] at h; omega
 | m + 1, .mk k n nm l nl, h, h' => fun u s => by
   obtain ⟨k', n', nm', l', nl'⟩ := u
   simp only [Ty.size] at h h'
   have hl := Ty.len_sizes l
   rw [Q9Z]
   by_cases he : l'.length = l.length
   ·have e1 := Q6s (.mk k n nm l nl) (.mk k' n' nm' l' nl') (by simp only [Ty.args]; omega) he l l' [] [] s 0 rfl rfl rfl rfl (fun t ht => by have := Ty.mem_sizes ht; exact Q7k m t (by omega) (by omega))
    simp only [go_sem] at e1
    rw [show ((0 : Nat) : Int) = 0 from rfl] at e1
    simp only [go_sem, Nat.reduceAdd, Nat.reduceLeDiff, Ty.enc, e1, eqTy, decide_eq_true (show ((l.length : Int) = l'.length) by omega)]
    generalize decide (k = k') = b1
    generalize decide (n = n') = b2
    generalize decide (nm = nm') = b3
    cases b1 <;> cases b2 <;> cases b3 <;> rfl
   ·simp only [go_sem, Nat.reduceAdd, Nat.reduceLeDiff, Ty.enc, eqTy, Q4J l l' (fun h => he h.symm), decide_eq_false (show ¬ ((l.length : Int) = l'.length) by omega)]
end Go.Proofs.YtobelgghegmhhaaGreatDoor
namespace Go.Am
open Go
def RetH (r : Res) (e : TypeId) (s : St) (l : List AV) : Prop := ∃ x s', r = some (.ret x, s') ∧ AccH e s.toks.length [] s' x l ∧ Grew s s'
end Go.Am
namespace Go.Proofs.YtobelgghegmhhaaGreatDoor
open Go Go.Am
set_option linter.unusedVariables false
set_option maxRecDepth 4000
def tnd (u : Ty) : AV := (TNode.ty u 0).enc
theorem QfT (u : Ty) : (tnd u).cells.length = 47 := TNode.cells_len (.ty u 0)
theorem Q8R (t : Ty) (s : St) (h : t.size < 2^28) : RetA (cw (.f Za) [t.enc, .int .i64 0] s) Ql s ((preTy t).map tnd) := by
 have := Q4P _ 0 t s (Nat.le_refl _) h
 unfold Nodes at this
 rw [Q3b, List.map_map] at this
 exact this
theorem Qa4 (t : Ty) (s : St) (h : t.size < 2^28) : Ret (cw (.f Q4a) [t.enc] s) s (.int .i64 t.size) := by
 obtain ⟨x, s1, e1, a1⟩ := Q8R t s h
 have hx := a1.list?
 refine ⟨s1, ?_, a1.grew⟩
 rw [Qcx]
 simp only [go_sem, Nat.reduceLeDiff, Ty.enc] at e1 ⊢
 simp only [go_sem, e1, hx, List.length_map, Q3g]
theorem Q4R (t u : Ty) (s : St) (h : t.size < 2^40) : cw (.f Q2p) [t.enc, u.enc] s = some (.ret (.val (.bool (eqTy t u))), s) := by
 have e1 := Q7k _ t (Nat.le_refl _) h u s
 rw [Qcw]
 simp only [go_sem, Nat.reduceLeDiff, Ty.enc] at e1 ⊢
 simp only [go_sem, Nat.reduceAdd, Nat.reduceLeDiff, e1]
theorem Qa6 (t : Ty) (s : St) (hl : t.name.length < 2^40) : cw (.f Q4b) [t.enc] s = some (.ret (.val (.bool (goodB t))), s) := by
 have e1 := fun s => QaQ t.name s (by omega)
 have e2 := Q9Y t.name
 unfold goodB goodC
 rw [Qcz]
 simp only [go_sem, Nat.reduceAdd, Nat.reduceLeDiff, Ty.enc, Ty.cells_eq, e1, e2, QmA]
 congr 5
 have hlow : (decide (t.name = [105, 110, 116]) || decide (t.name = [98, 111, 111, 108]) || decide (t.name = [117, 110, 105, 116]) || decide (t.name = [101, 120, 110])) = true → lowB t.name = true := by
  intro h
  simp only [Bool.or_eq_true, decide_eq_true_eq] at h
  rcases h with ((h | h) | h) | h <;> rw [h] <;> decide +kernel
 cases decide (t.kind = 1) with
 | true => rfl
 | false =>
   revert hlow
   delta givenB argsR
   generalize decide (t.name = [105, 110, 116]) = x1
   generalize decide (t.name = [98, 111, 111, 108]) = x2
   generalize decide (t.name = [117, 110, 105, 116]) = x3
   generalize decide (t.name = [101, 120, 110]) = x4
   generalize decide (t.name = [114, 101, 102]) = x5
   generalize decide (t.name = [45, 62]) = x6
   generalize decide (t.name = [42]) = x7
   generalize lowB t.name = lw
   generalize decide (t.kind = 2) = a
   generalize decide (t.n = 0) = b
   intro hlow
   generalize (x1 || x2 || x3 || x4) = y at hlow ⊢
   cases y <;> cases x5 <;> cases x6 <;> cases x7 <;> cases lw <;> first | (simp at hlow; done) | (cases a <;> cases b <;> simp)
theorem Q4Q (L : List Ty) (x : Slot) (hx : x.list? = some (L.map tnd)) (hl : L.length < 2^40) : ∀ (suf pre : List Ty) (s : St) (i : Nat), pre ++ suf = L → i = pre.length → (∀ t ∈ suf, t.name.length < 2^40) →
  Q0a x (.val (.int .i64 i)) s = some (.ret (.val (.bool (suf.all goodB))), s)
 | [], pre, s, i, h, hi, H => by
   subst hi
   rw [Q3k]; simp only [go_sem, hx, Qf (by simpa using h)]; rfl
 | t :: suf, pre, s, i, h, hi, H => by
   subst hi
   obtain ⟨f1, f2, f3⟩ := Qc hx h (by omega) (QfT t) (by decide)
   have e1 := Qa6 t s (H t List.mem_cons_self)
   have ih := Q4Q L x hx hl suf (pre ++ [t]) s (pre.length + 1) (by simpa using h) (by simp) (fun w hw => H w (List.mem_cons_of_mem _ hw))
   rw [Q3k]
   simp only [go_sem, Ty.enc] at e1
   simp only [go_sem, Nat.reduceLeDiff, Nat.reduceSub, hx, f1, f2, f3, tnd, TNode.enc, TNode.cells, Dec.cells_len, Exp.cells_len, Pat.cells_len, e1, ih, List.all_cons]
   cases goodB t <;> rfl
theorem Q7T (t : Ty) (s : St) (h : t.size < 2^28) (hn : NamesTy t) : Ret (cw (.f Q1z) [t.enc] s) s (.bool (allTy goodB t)) := by
 obtain ⟨x, s1, e1, a1⟩ := Q8R t s h
 have e2 := Q4Q (preTy t) x a1.list? (by rw [Q3g]; omega) (preTy t) [] s1 0 rfl rfl hn.pre
 refine ⟨s1, ?_, a1.grew⟩
 rw [show ((0 : Nat) : Int) = 0 from rfl] at e2
 rw [Qa3]
 simp only [go_sem, Nat.reduceLeDiff, Ty.enc] at e1 ⊢
 simp only [go_sem, e1, e2, Qbf]
theorem Q4n (t : Ty) (s : St) (h : t.size < 2^28) (hn : NamesTy t) : Ret (cw (.f Q1Y) [t.enc] s) s (.bool (rightTyB t)) := by
 obtain ⟨s1, e1, g1⟩ := Qa4 t s h
 obtain ⟨s2, e2, g2⟩ := Q7T t s1 h hn
 rw [QaV]
 have hd : decide ((t.size : Int) ≤ 256) = decide (t.size ≤ 256) := by rw [Bool.eq_iff_iff, decide_eq_true_iff, decide_eq_true_iff]; omega
 simp only [go_sem, Nat.reduceLeDiff, Ty.enc] at e1 e2 ⊢
 simp only [go_sem, e1, e2, hd, rightTyB]
 cases decide (t.size ≤ 256) with
 | true => simp only [go_sem]; exact ⟨_, rfl, g1.trans g2⟩
 | false => simp only [go_sem]; exact ⟨_, rfl, g1⟩
theorem Q5u (n : Int) (L : List Int) (x : Slot) (hx : x.list? = some (L.map ekI)) (hl : L.length < 2^40) : ∀ (suf pre : List Int) (s : St) (i : Nat), pre ++ suf = L → i = pre.length →
  Q0B x (.val (.int .i64 n)) (.val (.int .i64 i)) s = some (.ret (.val (.int .i64 (match placeI n suf i with | some j => (j : Int) | none => -1))), s)
 | [], pre, s, i, h, hi => by
   subst hi
   rw [Q3H]; simp only [go_sem, Int.reduceNeg, hx, Qf (by simpa using h)]; rfl
 | m :: suf, pre, s, i, h, hi => by
   subst hi
   obtain ⟨f1, f2, f3⟩ := Qc (f := ekI) (sz := 1) hx h (by omega) rfl (by decide)
   have ih := Q5u n L x hx hl suf (pre ++ [m]) s (pre.length + 1) (by simpa using h) (by simp)
   rw [Q3H]
   simp only [ekI] at f2
   simp only [go_sem, Int.reduceNeg, Nat.reduceAdd, Nat.reduceLeDiff, hx, f1, f2, f3, ih, placeI]
   by_cases he : m = n
   ·simp [he, ifR]
   ·simp [he, Ne.symm he, ifR]
theorem Q8X (n : Int) (L : List Int) (v : AV) (hv : (Slot.val v).list? = some (L.map ekI)) (hl : L.length < 2^40) (s : St) : cw (.f Q1Z) [v, .int .i64 n] s = some (.ret (.val (.int .i64 (placeR n L))), s) := by
 have := Q5u n L (.val v) hv hl L [] s 0 rfl rfl
 rw [QaW]; exact this
end Go.Proofs.YtobelgghegmhhaaGreatDoor
namespace Go.Proofs.YtobelgghegmhhaaGreatDoor
open Go Go.Am
set_option linter.unusedVariables false
set_option maxRecDepth 4000
theorem intAcc {A0 h0 h : List Nat} {s0 s : St} {x y : Slot} {A B : List Int} (a : AccH Q1 s0.toks.length h s x (A.map ekI)) (M : Moves A0 h0 h s0 s) (hh : ∀ k ∈ h, k < s.toks.length) (hy : y.list? = some (B.map ekI)) (b : A.length + B.length < 2^30) :
  ∃ x' s', appendS Q1 (C.ti Q1) s x y = some (x', s') ∧ AccH Q1 s0.toks.length h s' x' ((A ++ B).map ekI) ∧ Moves A0 h0 h s0 s' ∧ s'.locs = s.locs ∧ (∀ k ∈ h, s'.toks[k]? = s.toks[k]?) ∧ (∀ k ∈ h, k < s'.toks.length) :=
 AccH.appendF a M hh hy (fun a => by rw [Q1F]; rfl) (by rw [Q1F]; decide) b (by rw [Q7Y]; decide)
theorem Qce : ∀ (l : List Ty) (acc : List Int), (varsL l acc).length ≤ acc.length + l.length
 | [], acc => Nat.le_refl _
 | u :: l, acc => by
   simp only [varsL, List.length_cons]
   have := Qce l (bif decide (u.kind = 1) && decide (placeR u.n acc < 0) then acc ++ [u.n] else acc)
   cases h : (decide (u.kind = 1) && decide (placeR u.n acc < 0)) <;> rw [h] at this <;> simp only [cond_true, cond_false, List.length_append, List.length_singleton] at this ⊢ <;> omega
theorem Q3z (L : List Ty) (y : Slot) (hy : y.list? = some (L.map tnd)) (hl : L.length < 2^28) (s0 : St) : ∀ (suf pre : List Ty) (A : List Int) (x : Slot) (s : St) (i : Nat), AccH Q1 s0.toks.length [] s x (A.map ekI) → Moves [] [] [] s0 s → pre ++ suf = L → i = pre.length → A.length ≤ pre.length →
  RetH (ZZ x y (.val (.int .i64 i)) s) Q1 s0 ((varsL suf A).map ekI)
 | [], pre, A, x, s, i, hA, hM, h, hi, hn => by
   subst hi
   rw [Q4o]; simp only [go_sem, hy, Qf (by simpa using h), varsL]
   exact ⟨_, _, rfl, hA, hM.toGrew⟩
 | t :: suf, pre, A, x, s, i, hA, hM, h, hi, hn => by
   subst hi
   obtain ⟨f1, f2, f3⟩ := Qc hy h (by omega) (QfT t) (by decide)
   have hlen : pre.length < L.length := by rw [← h]; simp
   have e1 := Q8X t.n A (encS true (A.map ekI)) (Qa _ _) (by omega) s
   rw [Q4o]
   simp only [go_sem, Nat.reduceAdd, Nat.reduceLeDiff, Nat.reduceSub, hy, f1, f2, f3, tnd, TNode.enc, TNode.cells, Dec.cells_len, Exp.cells_len, Pat.cells_len, Ty.cells_eq, Z5 hA.av, e1, varsL]
   cases (decide (t.kind = 1) && decide (placeR t.n A < 0)) with
   | true =>
     obtain ⟨x1, s1, e2, a2, m2, -, -, -⟩ := intAcc (A0 := []) (h0 := []) (h := []) (s0 := s0) (B := [t.n]) (y := .full [.int .i64 t.n]) hA hM (by simp) rfl (by simp only [List.length_singleton]; omega)
     simp only [go_sem, e2, cond_true]
     exact Q3z L y hy hl s0 suf (pre ++ [t]) (A ++ [t.n]) x1 s1 (pre.length + 1) a2 m2 (by simpa using h) (by simp) (by simp; omega)
   | false =>
     simp only [go_sem, cond_false]
     exact Q3z L y hy hl s0 suf (pre ++ [t]) A x s (pre.length + 1) hA hM (by simpa using h) (by simp) (by simp; omega)
theorem AccH.weaken {e : TypeId} {b b' : Nat} {h : List Nat} {s : St} {x : Slot} {l : List AV} (a : AccH e b h s x l) (hb : b' ≤ b) : AccH e b' h s x l := by
 rcases a.is with hx | hx | ⟨k, hx, h1, h2, h3⟩
 ·exact ⟨.inl hx⟩
 ·exact ⟨.inr (.inl hx)⟩
 ·exact ⟨.inr (.inr ⟨k, hx, h1, by omega, h3⟩)⟩
theorem RetH.after {r : Res} {e : TypeId} {s s0 : St} {l : List AV} (h : RetH r e s l) (g : Grew s0 s) : RetH r e s0 l := by
 obtain ⟨x, s', h1, h2, h3⟩ := h
 exact ⟨x, s', h1, AccH.weaken h2 g.toksLe, g.trans h3⟩
theorem Qa5 (t : Ty) (s : St) (h : t.size < 2^28) : RetH (cw (.f Q2q) [t.enc] s) Q1 s ((varsTyR t).map ekI) := by
 obtain ⟨x, s1, e1, a1⟩ := Q8R t s h
 have e2 := Q3z (preTy t) x a1.list? (by rw [Q3g]; omega) s1 (preTy t) [] [] (.val .nils) s1 0 (.nil _ _ _ _) (.refl _ _ _) rfl rfl (Nat.le_refl _)
 rw [show ((0 : Nat) : Int) = 0 from rfl] at e2
 rw [Qcy]
 simp only [go_sem, Nat.reduceLeDiff, Ty.enc] at e1 ⊢
 simp only [go_sem, e1]
 exact RetH.after e2 a1.grew
end Go.Proofs.YtobelgghegmhhaaGreatDoor
namespace Go.Am
open Go
def hasI (l : List Int) (n : Int) : Bool := l.any fun m => decide (m = n)
def levelT (t : Ty) : Int := bif decide (t.kind = 2) && decide (t.name = [45, 62]) then 0 else bif decide (t.kind = 2) && decide (t.name = [42]) then 1 else 2
end Go.Am
namespace Go.Proofs.YtobelgghegmhhaaGreatDoor
open Go Go.Am
set_option linter.unusedVariables false
set_option maxRecDepth 4000
theorem Q5x (n : Int) (L : List Int) (x : Slot) (hx : x.list? = some (L.map ekI)) (hl : L.length < 2^40) (s : St) : ∀ (suf pre : List Int) (i : Nat), pre ++ suf = L → i = pre.length →
  Q1u x (.val (.int .i64 n)) (.val (.int .i64 L.length)) (.val (.int .i64 i)) s = some (.ret (.val (.bool (hasI suf n))), s)
 | [], pre, i, h, hi => by
   subst hi
   rw [Q4T]; simp only [go_sem, Qf (by simpa using h)]; rfl
 | m :: suf, pre, i, h, hi => by
   subst hi
   obtain ⟨f1, f2, f3⟩ := Qc (f := ekI) (sz := 1) hx h (by omega) rfl (by decide)
   have ih := Q5x n L x hx hl s suf (pre ++ [m]) (pre.length + 1) (by simpa using h) (by simp)
   have hh : hasI (m :: suf) n = (decide (m = n) || hasI suf n) := rfl
   rw [Q4T, hh]
   simp only [ekI] at f2
   cases hm : decide (m = n) with
   | true => simp only [go_sem, Nat.reduceAdd, Nat.reduceLeDiff, f1, f2, f3, hm]
   | false => simp only [go_sem, Nat.reduceAdd, Nat.reduceLeDiff, f1, f2, f3, hm, ih]
theorem Q5y (n : Int) (L : List Int) (v : AV) (hv : (Slot.val v).list? = some (L.map ekI)) (hl : L.length < 2^40) (s : St) : cw (.f Q1M) [v, .int .i64 n] s = some (.ret (.val (.bool (hasI L n))), s) := by
 have e1 := Q5x n L (.val v) hv hl s L [] 0 rfl rfl
 rw [show ((0 : Nat) : Int) = 0 from rfl] at e1
 rw [Qec]
 simp only [go_sem, hv, List.length_map, e1]
theorem Q8Y (t : Ty) (s : St) : cw (.f Q3u) [t.enc] s = some (.ret (.val (.int .i64 (levelT t))), s) := by
 have c := Ty.cells_eq t
 rw [QaY]
 unfold levelT
 cases h1 : decide (t.kind = 2) with
 | false => simp only [go_sem, Nat.reduceAdd, Ty.enc, c, h1]
 | true =>
   cases h2 : decide (t.name = [45, 62]) with
   | true => simp only [go_sem, Nat.reduceAdd, Ty.enc, c, h1, h2]
   | false =>
     cases h3 : decide (t.name = [42]) with
     | true => simp only [go_sem, Nat.reduceAdd, Ty.enc, c, h1, h2, h3]
     | false => simp only [go_sem, Nat.reduceAdd, Ty.enc, c, h1, h2, h3]
end Go.Proofs.YtobelgghegmhhaaGreatDoor
namespace Go.Proofs.YtobelgghegmhhaaGreatDoor
open Go Go.Am
set_option linter.unusedVariables false
set_option maxRecDepth 4000
def plainV : AV → Bool
 | .vs _ _ _ _ _ => false
 | .agg _ => false
 | _ => true
theorem Qhq (ti : TypeId → TI) (n : Nat) {v : AV} (h : plainV v = true) (s : St) : frz ti (n + 1) v s = some (v, s) := by
 cases v <;> first | rfl | simp [plainV] at h
theorem Q9D (ti : TypeId → TI) (n : Nat) : ∀ (l : List AV) (s : St), (∀ v ∈ l, plainV v = true) → frzW (frz ti (n + 1)) l s = some (l, s)
 | [], s, _ => rfl
 | v :: l, s, h => by
   simp only [frzW]
   rw [Qhq ti n (h v List.mem_cons_self)]
   simp only []
   rw [Q9D ti n l s fun w hw => h w (List.mem_cons_of_mem _ hw)]
theorem Q3V (v : AV) (l : List AV) : flatL (v :: l) = v.cells ++ flatL l := by simp [flatL]
theorem Q6W {sz : Nat} : ∀ {l : List AV}, (∀ v ∈ l, v.cells.length = sz) → (flatL l).length = l.length * sz
 | [], _ => by simp [flatL]
 | v :: l, h => by
   rw [Q3V, List.length_append, Q6W fun w hw => h w (List.mem_cons_of_mem _ hw), h v List.mem_cons_self, List.length_cons, Nat.succ_mul, Nat.add_comm]
theorem Qa9 {t : TI} : ∀ {l : List AV}, (∀ v ∈ l, v.cells.length = t.size ∧ ofCells t v.cells = some v) → rows t l.length (flatL l) = some l
 | [], _ => rfl
 | v :: l, h => by
   have hv := h v List.mem_cons_self
   rw [List.length_cons, Q3V]
   simp only [rows]
   rw [List.take_left' hv.1, List.drop_left' hv.1, hv.2]
   simp only []
   rw [Qa9 fun w hw => h w (List.mem_cons_of_mem _ hw)]
theorem Q8J {sz : Nat} : ∀ {l : List AV} {i : Nat} {v : AV}, (∀ v ∈ l, v.cells.length = sz) → l[i]? = some v → ∃ a b, flatL l = a ++ (v.cells ++ b) ∧ a.length = i * sz
 | [], i, v, _, h => by simp at h
 | w :: l, 0, v, h, g => by
   simp at g; subst g
   exact ⟨[], flatL l, by rw [Q3V]; rfl, by simp⟩
 | w :: l, i + 1, v, h, g => by
   obtain ⟨a, b, e, k⟩ := Q8J (l := l) (i := i) (v := v) (fun w hw => h w (List.mem_cons_of_mem _ hw)) (by simpa using g)
   refine ⟨w.cells ++ a, b, by rw [Q3V, e, List.append_assoc], ?_⟩
   rw [List.length_append, h w List.mem_cons_self, k, Nat.succ_mul, Nat.add_comm]
def Holds (s : St) (loc : Nat) (l : List AV) : Prop := s.locs[loc]? = some (.var ((flatL l).map .val))
theorem Holds.move {s s' : St} {loc : Nat} {l : List AV} (h : Holds s loc l) (g : Grew s s') : Holds s' loc l := g.loc h
theorem Holds.ld {s : St} {loc : Nat} {l : List AV} (h : Holds s loc l) {t : TI} (hs : ∀ v ∈ l, v.cells.length = t.size) {i : Nat} {v : AV} (hv : l[i]? = some v) : ldV t false s (.val (.vp loc (i * t.size))) = ofSlots t (v.cells.map .val) := by
 obtain ⟨a, b, e, k⟩ := Q8J hs hv
 have hv' := hs v (List.mem_of_getElem? hv)
 unfold Holds at h
 simp only [ldV, cond_false, h, e, List.map_append]
 rw [List.drop_left' (by simpa using k), List.take_left' (by simpa using hv')]
theorem Holds.st {s : St} {loc : Nat} {l : List AV} (h : Holds s loc l) {sz : Nat} (hs : ∀ v ∈ l, v.cells.length = sz) {i : Nat} {v : AV} (hv : l[i]? = some v) : stV s (.val (.vp loc (i * sz))) (v.cells.map .val) = some s := by
 obtain ⟨a, b, e, k⟩ := Q8J hs hv
 unfold Holds at h
 simp only [stV, h, e, List.map_append]
 have : putAt (List.map Slot.val a ++ (List.map Slot.val v.cells ++ List.map Slot.val b)) (i * sz) (List.map Slot.val v.cells) = some (List.map Slot.val a ++ (List.map Slot.val v.cells ++ List.map Slot.val b)) := by
  unfold putAt
  rw [if_pos (by simp only [List.length_append, List.length_map, k]; omega), List.take_left' (by simpa using k), List.drop_append, List.drop_of_length_le (by simp only [List.length_map, k]; omega)]
  simp only [List.length_map, k]
  rw [Nat.add_sub_cancel_left, List.nil_append, List.drop_left' (by simp)]
 rw [this]
 simp only []
 have hlt := (List.getElem?_eq_some_iff.1 h)
 obtain ⟨hlt, hget⟩ := hlt
 congr 1
 rw [show s.locs.set loc (Obj.var (List.map Slot.val a ++ (List.map Slot.val v.cells ++ List.map Slot.val b))) = s.locs from ?_]
 rw [← List.map_append, ← List.map_append, ← e, ← hget]
 exact List.set_getElem_self hlt
theorem Holds.frz {s : St} {loc : Nat} {l : List AV} (h : Holds s loc l) {ti : TypeId → TI} {e : TypeId} (hs : ∀ v ∈ l, v.cells.length = (ti e).size ∧ ofCells (ti e) v.cells = some v) (hp : ∀ v ∈ l, ∀ x ∈ v.cells, plainV x = true) (h0 : 0 < (ti e).size) :
  frzSlot ti (.val (.vs loc e (ti e).size 0 l.length)) s = some (.val (.sl l), { s with locs := s.locs.set loc .dead }) := by
 have hl := Q6W (fun v hv => (hs v hv).1)
 unfold Holds at h
 simp only [frzSlot, Am.frz, h]
 rw [Nat.zero_mul, List.drop_zero, List.take_of_length_le (by simp only [List.length_map, hl]; omega), QeL]
 simp only []
 rw [Q9D ti 14 _ _ (by intro v hv; obtain ⟨w, hw, hx⟩ := List.mem_flatMap.1 hv; exact hp w hw v hx)]
 simp only []
 rw [Qa9 hs]
 simp only [List.length_map, hl, Nat.zero_add]
 rw [show (Nat.blt 0 (ti e).size && Nat.ble (l.length * (ti e).size) (l.length * (ti e).size)) = true by simp [h0, Nat.blt_eq, Nat.ble_eq]]
 rfl
theorem Q70 {s0 s : St} (h : Grew s0 s) {k : Nat} (hk : s0.locs.length ≤ k) (o : Am.Obj) : Grew s0 { s with locs := s.locs.set k o } := by
 obtain ⟨⟨a, ha⟩, hb⟩ := h
 refine ⟨⟨a.set (k - s0.locs.length) o, ?_⟩, hb⟩
 simp only [ha]
 rw [List.set_append_right _ _ hk]
end Go.Proofs.YtobelgghegmhhaaGreatDoor
namespace Go.Proofs.YtobelgghegmhhaaGreatDoor
open Go Go.Am
set_option linter.unusedVariables false
set_option maxRecDepth 4000
theorem Qho (a b : List AV) : flatL (a ++ b) = flatL a ++ flatL b := by simp [flatL]
def _root_.Go.Am.St.kill (s : St) (k : Nat) : St := { s with locs := s.locs.set k .dead }
def _root_.Go.Am.St.turn (s : St) (k : Nat) (o : Am.Obj) : St := { s with locs := s.locs.set k .dead ++ [o] }
theorem Holds.lt {s : St} {k : Nat} {l : List AV} (h : Holds s k l) : k < s.locs.length := (List.getElem?_eq_some_iff.1 h).1
theorem Holds.kill {s : St} {j k : Nat} {l : List AV} (h : Holds s j l) (n : j ≠ k) : Holds (s.kill k) j l := by
 unfold Holds St.kill at *
 rw [List.getElem?_set_ne (Ne.symm n)]; exact h
theorem Holds.turn {s : St} {j k : Nat} {l : List AV} (h : Holds s j l) (n : j ≠ k) (o : Am.Obj) : Holds (s.turn k o) j l := by
 have hl := h.lt
 unfold Holds St.turn at *
 simp only []
 rw [List.getElem?_append_left (by rw [List.length_set]; exact hl), List.getElem?_set_ne (Ne.symm n)]; exact h
theorem Holds.put {s : St} {j k : Nat} {l : List AV} (h : Holds s j l) (n : j ≠ k) (o : Am.Obj) : Holds { s with locs := s.locs.set k o } j l := by
 unfold Holds at *
 simp only []
 rw [List.getElem?_set_ne (Ne.symm n)]; exact h
theorem Qdc {x : Option Slot} {d m h : Nat} (hd : d ≤ m) (e : bound x d m = some h) : h ≤ m := by
 unfold bound at e
 split at e
 ·cases e; exact hd
 ·split at e
  ·rename_i h1; cases e; omega
  ·cases e
 ·cases e
theorem Qhb {k : IntKind} {d m n : Nat} (h : n ≤ m) : bound (some (.val (.int k (n : Int)))) d m = some n := by
 simp only [bound]
 rw [if_pos ⟨by omega, by omega⟩]; simp
end Go.Proofs.YtobelgghegmhhaaGreatDoor