/- A part of the proof: SRef10e, SRef07t, PSch4, SLaw10, SLaw10b, RDec10, LSchemeOrder, SRef10f, LSchemeOf. -/
import Derived.Test.YtobelgghegmhhaaGreatDoorM8
import Derived.Test.YtobelgghegmhhaaGreatDoorM10
import Derived.Test.YtobelgghegmhhaaGreatDoorM12
import Derived.Test.YtobelgghegmhhaaGreatDoorM13
import Derived.Test.YtobelgghegmhhaaGreatDoorM14
set_option linter.unusedVariables false
set_option linter.unusedSimpArgs false
namespace Go.Proofs.YtobelgghegmhhaaGreatDoor
open Go Go.Am
set_option linter.unusedVariables false
set_option maxRecDepth 4000
def TextOK (vars : Int) (t : Ty) : Prop := ∀ s, Ret (cw (.f ZS) [t.enc, .int .i64 vars] s) s (.str (txt10 vars t))
theorem Q24 (vars : Int) (t : Ty) (lv : Int) (H : TextOK vars t) (hl : (txt10 vars t).length < 2^30) (s : St) : Ret (cw (.f Q0K) [t.enc, .int .i64 vars, .int .i64 lv] s) s (.str (at10 vars t lv)) := by
 obtain ⟨s1, e1, g1⟩ := H s
 have e2 := Q8Y t s1
 have c := Ty.cells_eq t
 have b1 : binS (C.ti Q2) .add (.val (.str [40])) (.val (.str (txt10 vars t))) = some (.val (.str (40 :: txt10 vars t))) := QP (by simp; omega)
 have b2 : binS (C.ti Q2) .add (.val (.str (40 :: txt10 vars t))) (.val (.str [41])) = some (.val (.str (40 :: (txt10 vars t ++ [41])))) := QP (by simp; omega)
 rw [Qfa]
 unfold at10 parS
 simp only [Ty.enc, c] at e1 e2 ⊢
 refine ⟨s1, ?_, g1⟩
 cases hd : decide (levelT t < lv) with
 | true => simp only [go_sem, Nat.reduceAdd, Nat.reduceLeDiff, e1, e2, hd, b1, b2]
 | false => simp only [go_sem, Nat.reduceAdd, Nat.reduceLeDiff, e1, e2, hd]
def lvS (star : Bool) : Int := bif star then 2 else 0
def sepS (star : Bool) : Str := bif star then [32, 42, 32] else [44, 32]
theorem Q2J (vars : Int) (t : Ty) (hl : t.args.length < 2^28) (star : Bool) (hst : decide (t.name = [42]) = star) (hnm : t.name.length < 2^20) (s0 : St) : ∀ (suf pre : List Ty) (acc : Str) (s : St) (i : Nat), Grew s0 s → pre ++ suf = t.args → i = pre.length → (∀ u ∈ suf, TextOK vars u ∧ (txt10 vars u).length < 2^28) → acc.length + ((ats10 vars suf (lvS star)).map (·.length)).sum + 10 * suf.length < 2^30 →
  Ret (Q00 (.val (.int .i64 vars)) (t.cells.map .val) (.val (.str acc)) (.val (.int .i64 t.args.length)) (.val (.int .i64 i)) s) s0 (.str (bif star then acc ++ joinS (sepS star) (ats10 vars suf (lvS star)) (decide (pre.length = 0)) else 40 :: (acc ++ joinS (sepS star) (ats10 vars suf (lvS star)) (decide (pre.length = 0)) ++ (41 :: 32 :: t.name))))
 | [], pre, acc, s, i, g, h, hi, H, hb => by
   subst hi
   have c := Ty.cells_eq t
   simp only [ats10, List.map_nil, List.sum_nil, List.length_nil] at hb
   have b1 : binS (C.ti Q2) .add (.val (.str [40])) (.val (.str acc)) = some (.val (.str (40 :: acc))) := QP (by simp; omega)
   have b2 : binS (C.ti Q2) .add (.val (.str (40 :: acc))) (.val (.str [41, 32])) = some (.val (.str (40 :: (acc ++ [41, 32])))) := QP (by simp; omega)
   have b3 : binS (C.ti Q2) .add (.val (.str (40 :: (acc ++ [41, 32])))) (.val (.str t.name)) = some (.val (.str (40 :: (acc ++ [41, 32]) ++ t.name))) := QP (by simp; omega)
   rw [Q4s]
   cases star with
   | true =>
     simp only [go_sem, c, Qf (by simpa using h), hst, ats10, joinS, List.append_nil]
     exact ⟨s, rfl, g⟩
   | false =>
     simp only [go_sem, c, Qf (by simpa using h), hst, ats10, joinS, List.append_nil, b1, b2, b3]
     exact ⟨s, by simp, g⟩
 | u :: suf, pre, acc, s, i, g, h, hi, H, hb => by
   subst hi
   have c := Ty.cells_eq t
   obtain ⟨f1, f2, f3⟩ := Qc (x := .val (encS t.nl (t.args.map Ty.enc))) (Qa _ _) h (by omega) (Ty.cells_len u) (by decide)
   obtain ⟨H1, H2⟩ := H u List.mem_cons_self
   have hu : ats10 vars (u :: suf) (lvS star) = at10 vars u (lvS star) :: ats10 vars suf (lvS star) := rfl
   rw [hu] at hb ⊢
   simp only [List.map_cons, List.sum_cons, List.length_cons] at hb
   have hp1 : (pre ++ [u]).length = pre.length + 1 := by simp
   have hd1 : decide ((pre ++ [u]).length = 0) = false := decide_eq_false (by simp)
   obtain ⟨s1, e1, g1⟩ := Q24 vars u (lvS star) H1 (by omega) s
   have IH := fun (acc' : Str) (hb' : acc'.length + ((ats10 vars suf (lvS star)).map (·.length)).sum + 10 * suf.length < 2^30) => Q2J vars t hl star hst hnm s0 suf (pre ++ [u]) acc' s1 (pre.length + 1) (g.trans g1) (by simpa using h) (by simp) (fun w hw => H w (List.mem_cons_of_mem _ hw)) hb'
   rw [hd1] at IH
   rw [Q4s]
   cases hz : decide (pre.length = 0) with
   | true =>
     have hz' := of_decide_eq_true hz
     have z : decide ((pre.length : Int) > 0) = false := decide_eq_false (by omega)
     have b1 : binS (C.ti Q2) .add (.val (.str acc)) (.val (.str (at10 vars u (lvS star)))) = some (.val (.str (acc ++ at10 vars u (lvS star)))) := QP (by omega)
     have ih := IH (acc ++ at10 vars u (lvS star)) (by simp only [List.length_append]; omega)
     have hj : joinS (sepS star) (at10 vars u (lvS star) :: ats10 vars suf (lvS star)) true = at10 vars u (lvS star) ++ joinS (sepS star) (ats10 vars suf (lvS star)) false := rfl
     rw [hj, ← List.append_assoc]
     cases star with
     | true =>
       simp only [lvS, cond_true] at e1 b1
       simp only [Ty.enc, c] at e1 ih ⊢
       simp only [go_sem, Nat.reduceAdd, Nat.reduceLeDiff, f1, f2, f3, hst, z, Q4q, e1, b1] at ih ⊢
       exact ih
     | false =>
       simp only [lvS, cond_false] at e1 b1
       simp only [Ty.enc, c] at e1 ih ⊢
       simp only [go_sem, Nat.reduceAdd, Nat.reduceLeDiff, f1, f2, f3, hst, z, Q4r, e1, b1] at ih ⊢
       exact ih
   | false =>
     have hz' := of_decide_eq_false hz
     have z : decide ((pre.length : Int) > 0) = true := decide_eq_true (by omega)
     have hsl : (sepS star).length ≤ 3 := by cases star <;> decide
     have b0 : binS (C.ti Q2) .add (.val (.str acc)) (.val (.str (sepS star))) = some (.val (.str (acc ++ sepS star))) := QP (by omega)
     have b1 : binS (C.ti Q2) .add (.val (.str (acc ++ sepS star))) (.val (.str (at10 vars u (lvS star)))) = some (.val (.str (acc ++ sepS star ++ at10 vars u (lvS star)))) := QP (by simp only [List.length_append]; omega)
     have ih := IH (acc ++ sepS star ++ at10 vars u (lvS star)) (by simp only [List.length_append]; omega)
     have hj : joinS (sepS star) (at10 vars u (lvS star) :: ats10 vars suf (lvS star)) false = sepS star ++ at10 vars u (lvS star) ++ joinS (sepS star) (ats10 vars suf (lvS star)) false := rfl
     rw [hj, ← List.append_assoc, ← List.append_assoc]
     cases star with
     | true =>
       simp only [lvS, sepS, cond_true] at e1 b0 b1
       simp only [Ty.enc, c] at e1 ih ⊢
       simp only [go_sem, Nat.reduceAdd, Nat.reduceLeDiff, f1, f2, f3, hst, z, Q4q, e1, b0, b1] at ih ⊢
       exact ih
     | false =>
       simp only [lvS, sepS, cond_false] at e1 b0 b1
       simp only [Ty.enc, c] at e1 ih ⊢
       simp only [go_sem, Nat.reduceAdd, Nat.reduceLeDiff, f1, f2, f3, hst, z, Q4r, e1, b0, b1] at ih ⊢
       exact ih
theorem Q4U (vars : Int) (hv : 0 ≤ vars ∧ vars ≤ 256) : ∀ (m : Nat) (t : Ty), t.size ≤ m → t.size ≤ 256 → allTy goodB t = true → VarOK t → TextOK vars t
 | 0, t, h, _, _, _ => by have := Ty.size_pos t; omega
 | m + 1, t, h, h', hg, hp => fun s => by
   have hsz : Ty.sizes t.args + 1 = t.size := by cases t; simp only [Ty.size, Ty.args]
   have hal := Ty.len_sizes t.args
   have hg1 : goodB t = true ∧ allTys goodB t.args = true := by cases t; simp only [allTy, Bool.and_eq_true] at hg; exact hg
   have hp2 : allTys (varB fun n => decide (0 ≤ n) && decide (n ≤ 9223372036854775807)) t.args = true := by cases t; unfold VarOK at hp; simp only [allTy, Bool.and_eq_true] at hp; exact hp.2
   have HV : ∀ u ∈ t.args, TextOK vars u ∧ (txt10 vars u).length < 2^28 := fun u hu => by
    have h2 := Ty.mem_sizes hu
    have g2 := Q1o hg1.2 u hu
    have p2 := Q1o hp2 u hu
    have := Q48 vars hv.1 u g2 p2
    exact ⟨Q4U vars hv m u (by omega) (by omega) g2 p2, by omega⟩
   have c := Ty.cells_eq t
   have hT : txt10 vars t = bif decide (t.kind = 1) then (bif decide (t.n < vars) then 39 :: letT t.n else 95 :: letT (t.n - vars))
    else bif decide (t.args.length = 0) then t.name
    else bif decide (t.name = [45, 62]) then (ats10 vars t.args 1).getD 0 [] ++ ([32, 45, 62, 32] ++ (ats10 vars t.args 0).getD 1 [])
    else bif decide (t.name = [42]) then joinS [32, 42, 32] (ats10 vars t.args 2) true
    else bif decide (t.args.length = 1) then (ats10 vars t.args 2).getD 0 [] ++ (32 :: t.name)
    else 40 :: (joinS [44, 32] (ats10 vars t.args 0) true ++ (41 :: 32 :: t.name)) := by cases t; rfl
   have hTl := Q48 vars hv.1 t hg hp
   rw [hT, QcC]
   cases hk : decide (t.kind = 1) with
   | true =>
     have hn : 0 ≤ t.n ∧ t.n ≤ 9223372036854775807 := by
      cases t with
      | mk k n s l b =>
        unfold VarOK at hp
        simp only [allTy, Bool.and_eq_true] at hp
        have := Q1x hp.1 hk
        simp only [Bool.and_eq_true, decide_eq_true_eq] at this
        exact this
     cases hd : decide (t.n < vars) with
     | true =>
       have hd' := of_decide_eq_true hd
       have e1 := Q5t t.n hn.1 (by omega) s
       have hl := Q7L hn.1 hn.2
       have b1 : binS (C.ti Q2) .add (.val (.str [39])) (.val (.str (letT t.n))) = some (.val (.str (39 :: letT t.n))) := QP (by simp; omega)
       simp only [go_sem, Nat.reduceAdd, Nat.reduceLeDiff, c, hk, hd, e1, b1]
       exact Ret.same _ _
     | false =>
       have hd' := of_decide_eq_false hd
       have w1 : IntKind.i64.wrap (t.n - vars) = t.n - vars := wrap64 (by omega) (by omega)
       have e1 := Q5t (t.n - vars) (by omega) (by omega) s
       have hl := Q7L (n := t.n - vars) (by omega) (by omega)
       have b1 : binS (C.ti Q2) .add (.val (.str [95])) (.val (.str (letT (t.n - vars)))) = some (.val (.str (95 :: letT (t.n - vars)))) := QP (by simp; omega)
       simp only [go_sem, Nat.reduceAdd, Nat.reduceLeDiff, c, hk, hd, w1, e1, b1]
       exact Ret.same _ _
   | false =>
     have hil : ∀ a b : Nat, decide ((a : Int) = (b : Int)) = decide (a = b) := fun a b => by
      by_cases h : a = b
      ·rw [decide_eq_true h, decide_eq_true (by omega)]
      ·rw [decide_eq_false h, decide_eq_false (by omega)]
     have i0 := hil t.args.length 0
     have i1 := hil t.args.length 1
     rw [show ((0 : Nat) : Int) = 0 from rfl] at i0
     rw [show ((1 : Nat) : Int) = 1 from rfl] at i1
     have hcon : ((givenB t.name).1 ≤ t.args.length ∧ (t.args.length : Int) ≤ (givenB t.name).2.1) ∧ ((givenB t.name).2.2 || lowB t.name) = true := by
      cases t with
      | mk k n s l b => exact (Q2X hg1.1 hk).2.2
     have hnl := Q8i hcon.2
     cases h0 : decide (t.args.length = 0) with
     | true =>
       rw [h0] at i0
       simp only [go_sem, Nat.reduceAdd, Nat.reduceLeDiff, c, hk, Qa, List.length_map, i0]
       exact Ret.same _ _
     | false =>
       rw [h0] at i0
       have h0' := of_decide_eq_false h0
       cases h1 : decide (t.name = [45, 62]) with
       | true =>
         have h1' := of_decide_eq_true h1
         rw [h1', Qdx] at hcon
         obtain ⟨x, y, hxy⟩ : ∃ x y, t.args = [x, y] := by
          match hq : t.args, hcon.1 with
          | [x, y], _ => exact ⟨x, y, rfl⟩
          | [], h => simp at h
          | [_], h => simp at h
          | _ :: _ :: _ :: _, h => simp at h; omega
         have f1 : ixS 4 (.val (encS t.nl (t.args.map Ty.enc))) (.val (.int .i64 0)) = some (.val (.cp x.cells)) := Q18 (n := 0) (v := x.enc) (Qa _ _) (by rw [hxy]; rfl) (Ty.cells_len x) (by decide)
         have f2 : ixS 4 (.val (encS t.nl (t.args.map Ty.enc))) (.val (.int .i64 1)) = some (.val (.cp y.cells)) := Q18 (n := 1) (v := y.enc) (Qa _ _) (by rw [hxy]; rfl) (Ty.cells_len y) (by decide)
         obtain ⟨Hx, lx⟩ := HV x (by rw [hxy]; simp)
         obtain ⟨Hy, ly⟩ := HV y (by rw [hxy]; simp)
         obtain ⟨s1, e1, g1⟩ := Q24 vars x 1 Hx (by omega) s
         obtain ⟨s2, e2, g2⟩ := Q24 vars y 0 Hy (by omega) s1
         have a1 : (ats10 vars t.args 1).getD 0 [] = at10 vars x 1 := by rw [hxy]; rfl
         have a2 : (ats10 vars t.args 0).getD 1 [] = at10 vars y 0 := by rw [hxy]; rfl
         have hp1 : ∀ u lv, (at10 vars u lv).length ≤ (txt10 vars u).length + 2 := fun u lv => by
          unfold at10
          cases decide (levelT u < lv) <;> simp [parS]
         have l1 := hp1 x 1
         have l2 := hp1 y 0
         have b1 : binS (C.ti Q2) .add (.val (.str (at10 vars x 1))) (.val (.str [32, 45, 62, 32])) = some (.val (.str (at10 vars x 1 ++ [32, 45, 62, 32]))) := QP (by simp; omega)
         have b2 : binS (C.ti Q2) .add (.val (.str (at10 vars x 1 ++ [32, 45, 62, 32]))) (.val (.str (at10 vars y 0))) = some (.val (.str (at10 vars x 1 ++ [32, 45, 62, 32] ++ at10 vars y 0))) := QP (by simp; omega)
         have cx := Ty.cells_eq x
         have cy := Ty.cells_eq y
         rw [a1, a2]
         simp only [Ty.enc, cx, cy] at e1 e2 f1 f2
         simp only [go_sem, Nat.reduceAdd, Nat.reduceLeDiff, c, hk, Qa, List.length_map, i0, h1, f1, f2, e1, b1, e2, b2]
         exact ⟨s2, rfl, g1.trans g2⟩
       | false =>
         cases h2 : decide (t.name = [42]) with
         | true =>
           have hb := Q42 vars hv.1 2 t.args hg1.2 hp2
           have e1 := Q2J vars t (by omega) true h2 (by omega) s t.args [] [] s 0 (.refl s) rfl rfl HV (by simp only [lvS, cond_true, List.length_nil]; omega)
           rw [show ((0 : Nat) : Int) = 0 from rfl] at e1
           simp only [lvS, sepS, cond_true, List.nil_append, List.length_nil, decide_true] at e1
           simp only [go_sem, Nat.reduceAdd, Nat.reduceLeDiff, c, hk, Qa, List.length_map, i0, h1, h2] at e1 ⊢
           exact e1
         | false =>
           cases h3 : decide (t.args.length = 1) with
           | true =>
             rw [h3] at i1
             obtain ⟨x, hx⟩ : ∃ x, t.args = [x] := by
              match hq : t.args, of_decide_eq_true h3 with
              | [x], _ => exact ⟨x, rfl⟩
             have f1 : ixS 4 (.val (encS t.nl (t.args.map Ty.enc))) (.val (.int .i64 0)) = some (.val (.cp x.cells)) := Q18 (n := 0) (v := x.enc) (Qa _ _) (by rw [hx]; rfl) (Ty.cells_len x) (by decide)
             obtain ⟨Hx, lx⟩ := HV x (by rw [hx]; simp)
             obtain ⟨s1, e1, g1⟩ := Q24 vars x 2 Hx (by omega) s
             have a1 : (ats10 vars t.args 2).getD 0 [] = at10 vars x 2 := by rw [hx]; rfl
             have l1 : (at10 vars x 2).length ≤ (txt10 vars x).length + 2 := by
              unfold at10
              cases decide (levelT x < 2) <;> simp [parS]
             have b1 : binS (C.ti Q2) .add (.val (.str (at10 vars x 2))) (.val (.str [32])) = some (.val (.str (at10 vars x 2 ++ [32]))) := QP (by simp; omega)
             have b2 : binS (C.ti Q2) .add (.val (.str (at10 vars x 2 ++ [32]))) (.val (.str t.name)) = some (.val (.str (at10 vars x 2 ++ [32] ++ t.name))) := QP (by simp; omega)
             have cx := Ty.cells_eq x
             rw [a1]
             simp only [Ty.enc, cx] at e1 f1
             simp only [go_sem, Nat.reduceAdd, Nat.reduceLeDiff, c, hk, Qa, List.length_map, i0, i1, h1, h2, f1, e1, b1, b2]
             exact ⟨s1, rfl, g1⟩
           | false =>
             rw [h3] at i1
             have hb := Q42 vars hv.1 0 t.args hg1.2 hp2
             have e1 := Q2J vars t (by omega) false h2 (by omega) s t.args [] [] s 0 (.refl s) rfl rfl HV (by simp only [lvS, cond_false, List.length_nil]; omega)
             rw [show ((0 : Nat) : Int) = 0 from rfl] at e1
             simp only [lvS, sepS, cond_false, List.nil_append, List.length_nil, decide_true] at e1
             simp only [go_sem, Nat.reduceAdd, Nat.reduceLeDiff, c, hk, Qa, List.length_map, i0, i1, h1, h2] at e1 ⊢
             exact e1
theorem Q4S (x : Sch) (h : SchOK x) (s : St) : Ret (cw (.f Q2s) [x.enc] s) s (.str (show10 x.vars x.ty)) := by
 obtain ⟨vars, t⟩ := x
 obtain ⟨s1, e1, g1⟩ := Q4p vars t s h.size h.names
 have c := Ty.cells_eq t
 rw [QcB]
 unfold show10
 cases hr : rightSB vars t with
 | false =>
   rw [hr] at e1
   simp only [Sch.enc, Sch.cells, c] at e1 ⊢
   simp only [go_sem, Nat.reduceAdd, Nat.reduceLeDiff, e1]
   exact ⟨s1, rfl, g1⟩
 | true =>
   rw [hr] at e1
   have r := Q0S hr
   obtain ⟨s2, e2, g2⟩ := Q4U vars r.2 t.size t (Nat.le_refl _) (Q6r r.1) (Q01 r.1) (h.var r.1) s1
   simp only [Sch.enc, Sch.cells, c, Ty.enc] at e1 e2 ⊢
   simp only [go_sem, Nat.reduceAdd, Nat.reduceLeDiff, e1, e2]
   exact ⟨s2, rfl, g1.trans g2⟩
end Go.Proofs.YtobelgghegmhhaaGreatDoor
namespace Go.Am
open Go
mutual
def fewT : Ty → Int → Int → Int
 | .mk _ _ nm l _, left, deep => bif decide (left - 1 - (nm.length / 100 : Nat) < 0) || decide (deep > 130) then -1 else fewTs l (left - 1 - (nm.length / 100 : Nat)) (deep + 1)
def fewTs : List Ty → Int → Int → Int
 | [], left, _ => left
 | t :: l, left, deep => bif decide (fewT t left deep < 0) then -1 else fewTs l (fewT t left deep) deep
end
mutual
theorem QfC : ∀ (t : Ty) (left deep : Int), fewT t left deep ≤ left ∨ fewT t left deep = -1
 | .mk k n nm l b, left, deep => by
   simp only [fewT]
   cases (decide (left - 1 - (nm.length / 100 : Nat) < 0) || decide (deep > 130)) with
   | true => exact .inr rfl
   | false =>
     rcases Qdm l (left - 1 - (nm.length / 100 : Nat)) (deep + 1) with h | h
     ·exact .inl (by simp only [cond_false]; omega)
     ·exact .inr h
theorem Qdm : ∀ (l : List Ty) (left deep : Int), fewTs l left deep ≤ left ∨ fewTs l left deep = -1
 | [], left, _ => .inl (Int.le_refl _)
 | t :: l, left, deep => by
   simp only [fewTs]
   cases h : decide (fewT t left deep < 0) with
   | true => exact .inr rfl
   | false =>
     have h1 := of_decide_eq_false h
     rcases QfC t left deep with h2 | h2
     ·rcases Qdm l (fewT t left deep) deep with h3 | h3
      ·exact .inl (by simp only [cond_false]; omega)
      ·exact .inr h3
     ·omega
end
end Go.Am
namespace Go.Proofs.YtobelgghegmhhaaGreatDoor
open Go Go.Am
set_option linter.unusedVariables false
set_option maxRecDepth 4000
def FewOK (t : Ty) : Prop := ∀ left deep s, -1 ≤ left → left < 2^40 → 0 ≤ deep → deep ≤ 200 → cw (.f Q0U) [t.enc, .int .i64 left, .int .i64 deep] s = some (.ret (.val (.int .i64 (fewT t left deep))), s)
theorem Q9z (t : Ty) (hl : t.args.length < 2^40) (deep : Int) (hd : 0 ≤ deep ∧ deep ≤ 130) (s : St) : ∀ (suf pre : List Ty) (left : Int) (i : Nat), pre ++ suf = t.args → i = pre.length → 0 ≤ left → left < 2^40 → (∀ u ∈ suf, FewOK u) →
  Q0A (.val (.int .i64 left)) (.val (.int .i64 deep)) (t.cells.map .val) (.val (.int .i64 t.args.length)) (.val (.int .i64 i)) s = some (.ret (.val (.int .i64 (fewTs suf left (deep + 1)))), s)
 | [], pre, left, i, h, hi, h0, h1, H => by
   subst hi
   rw [Q3G]; simp only [go_sem, Int.reduceNeg, Qf (by simpa using h), fewTs]
 | u :: suf, pre, left, i, h, hi, h0, h1, H => by
   subst hi
   have c := Ty.cells_eq t
   obtain ⟨f1, f2, f3⟩ := Qc (x := .val (encS t.nl (t.args.map Ty.enc))) (Qa _ _) h (by omega) (Ty.cells_len u) (by decide)
   have w1 : IntKind.i64.wrap (deep + 1) = deep + 1 := wrap64 (by omega) (by omega)
   have e1 := H u List.mem_cons_self left (deep + 1) s (by omega) h1 (by omega) (by omega)
   rw [Q3G]
   simp only [go_sem, Int.reduceNeg, Nat.reduceAdd, Nat.reduceLeDiff, c, f1, f2, f3, w1, e1, fewTs]
   cases hn : decide (fewT u left (deep + 1) < 0) with
   | true => simp only [go_sem, Int.reduceNeg, hn]
   | false =>
     have hn' := of_decide_eq_false hn
     have hle : fewT u left (deep + 1) ≤ left := by rcases QfC u left (deep + 1) with h | h <;> omega
     have ih := Q9z t hl deep hd s suf (pre ++ [u]) (fewT u left (deep + 1)) (pre.length + 1) (by simpa using h) (by simp) (by omega) (by omega) (fun w hw => H w (List.mem_cons_of_mem _ hw))
     simp only [go_sem, Int.reduceNeg, c, hn] at ih ⊢
     exact ih
theorem Q9A : ∀ (k : Nat) (t : Ty), t.size ≤ k → t.size < 2^40 → NamesTy t → FewOK t
 | 0, .mk _ _ _ _ _, h, _, _ => by simp only [Ty.size] at h; omega
 | k + 1, t, h, h', hn => fun left deep s h0 h1 h2 h3 => by
   have hsz : Ty.sizes t.args + 1 = t.size := by cases t; simp only [Ty.size, Ty.args]
   have hl := Ty.len_sizes t.args
   have hnm : t.name.length < 2^40 := by cases t; exact hn.name
   have HV : ∀ u ∈ t.args, FewOK u := fun u hu => by
    cases t with
    | mk kd n nm l nl =>
      have h2 := Ty.mem_sizes hu
      simp only [Ty.args] at hsz hu h2
      exact Q9A k u (by omega) (by omega) (hn.arg hu)
   have c := Ty.cells_eq t
   have a1 : (t.name.length : Int).tdiv 100 = ((t.name.length / 100 : Nat) : Int) := by
    rw [Int.tdiv_eq_ediv_of_nonneg (by omega)]; omega
   have w1 : IntKind.i64.wrap (left - 1) = left - 1 := wrap64 (by omega) (by omega)
   have w0 : IntKind.i64.wrap (((t.name.length / 100 : Nat) : Int)) = ((t.name.length / 100 : Nat) : Int) := wrap64 (by omega) (by omega)
   have w2 : IntKind.i64.wrap (left - 1 - ((t.name.length / 100 : Nat) : Int)) = left - 1 - ((t.name.length / 100 : Nat) : Int) := wrap64 (by omega) (by omega)
   have hT : fewT t left deep = bif decide (left - 1 - (t.name.length / 100 : Nat) < 0) || decide (deep > 130) then -1 else fewTs t.args (left - 1 - (t.name.length / 100 : Nat)) (deep + 1) := by cases t; rfl
   rw [hT, QaU]
   simp only [go_sem, Int.reduceEq, Int.reduceNeg, Nat.reduceAdd, Nat.reduceLeDiff, ne_eq, not_false_eq_true, c, a1, w0, w1, w2]
   cases hA : decide (left - 1 - ((t.name.length / 100 : Nat) : Int) < 0) with
   | true => simp only [go_sem, Int.reduceNeg, hA]
   | false =>
     cases hB : decide (deep > 130) with
     | true => simp only [go_sem, Int.reduceNeg, hA, hB]
     | false =>
       have hA' := of_decide_eq_false hA
       have hB' := of_decide_eq_false hB
       have e1 := Q9z t (by omega) deep ⟨h2, by omega⟩ s t.args [] (left - 1 - ((t.name.length / 100 : Nat) : Int)) 0 rfl rfl (by omega) (by omega) HV
       rw [show ((0 : Nat) : Int) = 0 from rfl] at e1
       simp only [go_sem, Int.reduceNeg, c, hA, hB] at e1 ⊢
       exact e1
theorem Q9g (t : Ty) (most : Int) (hm : 0 ≤ most ∧ most < 2^40) (s : St) (h : t.size < 2^40) (hn : NamesTy t) : cw (.f Q1X) [t.enc, .int .i64 most] s = some (.ret (.val (.bool (decide (fewT t most 0 ≥ 0)))), s) := by
 have e1 := Q9A t.size t (Nat.le_refl _) h hn most 0 s (by omega) hm.2 (by omega) (by omega)
 have c := Ty.cells_eq t
 rw [QaT]
 simp only [go_sem, Nat.reduceAdd, Nat.reduceLeDiff, c, Ty.enc] at e1 ⊢
 simp only [go_sem, e1]
end Go.Proofs.YtobelgghegmhhaaGreatDoor
namespace Go.Am
open Go
mutual
theorem QkA (l : List Ty) : ∀ t : Ty, (chTy (toPut l) t ()).1 = rebT (fun n => (toPut l n ()).1) t
 | .mk k n s a b => by
   simp only [chTy, rebT]
   cases decide (k = 1) with
   | true => rfl
   | false => simp only [cond_false, Qe8 l a]
theorem Qe8 (l : List Ty) : ∀ a : List Ty, (chTys (toPut l) a ()).1 = rebTs (fun n => (toPut l n ()).1) a
 | [] => rfl
 | t :: a => by
   simp only [chTys, rebTs, QkA l t]
   rw [show (chTy (toPut l) t ()).2 = () from rfl, Qe8 l a]
end
mutual
theorem QiW : ∀ t : Ty, allTy goodB (ownTy t) = allTy goodB t
 | .mk k n s l b => by
   simp only [ownTy, allTy, Qbx l]
   congr 1
   unfold goodB
   simp only [Ty.kind, Ty.n, Ty.name, Ty.args, Q66, List.length_map]
theorem Qbx : ∀ l : List Ty, allTys goodB (ownTys l) = allTys goodB l
 | [] => rfl
 | t :: l => by simp only [ownTys, allTys, QiW t, Qbx l]
end
mutual
theorem QiX {f : Int → Ty} (h : ∀ n, 0 ≤ n → allTy goodB (f n) = true) : ∀ t : Ty, allTy goodB t = true → allTy goodB (rebT f t) = true
 | .mk k n s l b, hg => by
   simp only [allTy, Bool.and_eq_true] at hg
   simp only [rebT]
   cases hk : decide (k = 1) with
   | true => exact h n (Q2b hg.1 hk).1
   | false =>
     simp only [cond_false, allTy, Qby h l hg.2, Bool.and_true]
     have := hg.1
     unfold goodB at this ⊢
     simp only [Ty.kind, Ty.n, Ty.name, Ty.args, Q7h, List.length_map] at this ⊢
     exact this
theorem Qby {f : Int → Ty} (h : ∀ n, 0 ≤ n → allTy goodB (f n) = true) : ∀ l : List Ty, allTys goodB l = true → allTys goodB (rebTs f l) = true
 | [], _ => rfl
 | t :: l, hg => by
   simp only [allTys, Bool.and_eq_true] at hg
   simp only [rebTs, allTys, QiX h t hg.1, Qby h l hg.2, Bool.and_self]
end
mutual
theorem Qjh : ∀ t : Ty, allTy goodB t = true → allTy (varB fun n => decide (0 ≤ n)) t = true
 | .mk k n s l b, hg => by
   simp only [allTy, Bool.and_eq_true] at hg ⊢
   refine ⟨?_, QbO l hg.2⟩
   unfold varB
   rw [show (Ty.mk k n s l b).kind = k from rfl, show (Ty.mk k n s l b).n = n from rfl]
   cases hk : decide (k = 1) with
   | true => simpa using (Q2b hg.1 hk).1
   | false => rfl
theorem QbO : ∀ l : List Ty, allTys goodB l = true → allTys (varB fun n => decide (0 ≤ n)) l = true
 | [], _ => rfl
 | t :: l, hg => by
   simp only [allTys, Bool.and_eq_true] at hg ⊢
   exact ⟨Qjh t hg.1, QbO l hg.2⟩
end
mutual
theorem Qh7 {p q : Ty → Bool} : ∀ t : Ty, allTy p t = true → allTy q t = true → allTy (fun t => p t && q t) t = true
 | .mk k n s l b, h, g => by
   simp only [allTy, Bool.and_eq_true] at h g ⊢
   exact ⟨⟨h.1, g.1⟩, Q9m l h.2 g.2⟩
theorem Q9m {p q : Ty → Bool} : ∀ l : List Ty, allTys p l = true → allTys q l = true → allTys (fun t => p t && q t) l = true
 | [], _, _ => rfl
 | t :: l, h, g => by
   simp only [allTys, Bool.and_eq_true] at h g ⊢
   exact ⟨Qh7 t h.1 g.1, Q9m l h.2 g.2⟩
end
theorem QhJ (old : List Int) (n : Int) : (numF old n).size = 1 := rfl
mutual
theorem Qfw : ∀ (t : Ty) (old : List Int), (chTy toCanon t old).2.length ≤ old.length + t.size
 | .mk k n s l b, old => by
   simp only [chTy, Ty.size]
   cases decide (k = 1) with
   | true =>
     simp only [cond_true, Q3c]
     split
     ·simp only [List.length_append, List.length_singleton]; omega
     ·omega
   | false =>
     have := Qde l old
     simp only [cond_false]; omega
theorem Qde : ∀ (l : List Ty) (old : List Int), (chTys toCanon l old).2.length ≤ old.length + Ty.sizes l
 | [], old => by simp [chTys]
 | t :: l, old => by
   have h1 := Qfw t old
   have h2 := Qde l (chTy toCanon t old).2
   simp only [chTys, Ty.sizes]; omega
end
theorem Qhd (t : Ty) : (canonTy t).2.length ≤ t.size := by
 have := Qfw t []
 simpa [canonTy] using this
end Go.Am
namespace Go.Am
open Go
theorem QhH {t : Ty} : NamesTy t ↔ ∀ u ∈ preTy t, u.name.length < 2^40 := by
 unfold NamesTy
 rw [Q3b]
 constructor
 ·intro h u hu
  exact h _ (List.mem_map.2 ⟨u, hu, rfl⟩)
 ·intro h n hn
  obtain ⟨u, hu, rfl⟩ := List.mem_map.1 hn
  exact h u hu
theorem Q4j {k n : Int} {s : Str} {l : List Ty} {b : Bool} (h : s.length < 2^40) (g : ∀ t ∈ l, NamesTy t) : NamesTy (.mk k n s l b) := by
 intro nd hn
 simp only [nodesTy, List.mem_cons] at hn
 rcases hn with rfl | hn
 ·exact h
 ·have : ∀ (l : List Ty), (∀ t ∈ l, NamesTy t) → ∀ nd ∈ nodesTys 0 l, nd.ok := by
   intro l
   induction l with
   | nil => intro _ nd h; simp [nodesTys] at h
   | cons t l ih =>
     intro h nd hn
     simp only [nodesTys, List.mem_append] at hn
     rcases hn with hn | hn
     ·exact h t List.mem_cons_self nd hn
     ·exact ih (fun t ht => h t (List.mem_cons_of_mem _ ht)) nd hn
  exact this l g nd hn
mutual
theorem QbG {f : Int → Ty} {p : Int → Bool} (h : ∀ n, p n = true → NamesTy (f n)) : ∀ t : Ty, NamesTy t → allTy (varB p) t = true → NamesTy (rebT f t)
 | .mk k n s l b, hn, hp => by
   simp only [allTy, Bool.and_eq_true] at hp
   simp only [rebT]
   cases hk : decide (k = 1) with
   | true => exact h n (Q1x hp.1 hk)
   | false =>
     rw [cond_false]
     exact Q4j hn.name (Q9N h l (fun t ht => hn.arg ht) hp.2)
theorem Q9N {f : Int → Ty} {p : Int → Bool} (h : ∀ n, p n = true → NamesTy (f n)) : ∀ l : List Ty, (∀ t ∈ l, NamesTy t) → allTys (varB p) l = true → ∀ t ∈ rebTs f l, NamesTy t
 | [], _, _, t, ht => by simp [rebTs] at ht
 | u :: l, hn, hp, t, ht => by
   simp only [allTys, Bool.and_eq_true] at hp
   simp only [rebTs, List.mem_cons] at ht
   rcases ht with rfl | ht
   ·exact QbG h u (hn u List.mem_cons_self) hp.1
   ·exact Q9N h l (fun t ht => hn t (List.mem_cons_of_mem _ ht)) hp.2 t ht
end
theorem Q9O (n : Int) : NamesTy (tvar n) := Q4j (by decide) (by simp)
theorem Qf3 {vars n : Int} (hv : 0 ≤ vars ∧ vars ≤ 256) (hn : 0 ≤ n ∧ n ≤ 9223372036854775807) : NamesTy (showF vars n) := by
 unfold showF
 cases hd : decide (n < vars) with
 | true => exact Q9O n
 | false =>
   have hd' := of_decide_eq_false hd
   have := (QdA (m := n - vars) (by omega) (by omega)).2
   unfold keptN at this
   exact Q4j (by omega) (by simp)
def fewL (x : Sch) (l : List Ty) : Bool := l.all (fun t => decide (fewT t 300 0 ≥ 0)) && (decide ((l.length : Int) < 300) && decide (fewT x.ty 400 0 ≥ 0))
def alikeS (a b : Sch) : Bool := decide (a.vars = b.vars) && eqTy a.ty b.ty
def fnK (a b : Ty) : Ty := .mk 2 0 [45, 62] [a, b] false
def kOf : Ty := fnK (tvar 3) (fnK (tvar 5) (tvar 3))
def kShow : Ty := rebT (numF [3, 5]) kOf
def kA : Sch := ⟨2, fnK (tvar 0) (tvar 1)⟩
def kB : Sch := ⟨1, fnK (tvar 0) (tvar 0)⟩
def kInt10 : Ty := .mk 2 0 [105, 110, 116] [] true
theorem Qhy : rightTyB kOf = true := by decide +kernel
theorem Qmy : ofP kOf [5] = (1, kShow) := by
 unfold ofP
 rw [Qhy]
 rfl
theorem Qgr : schemeT 1 kShow = [39, 97, 32, 45, 62, 32, 95, 97, 32, 45, 62, 32, 39, 97] := by
 rw [Q95 1 kShow (fun _ => by unfold VarOK; decide +kernel)]
 decide +kernel
theorem kMore1 : moreP 2 kA.ty 1 kB.ty = true := by decide +kernel
theorem kMore2 : moreP 1 kB.ty 2 kA.ty = false := by decide +kernel
theorem kInst1 : (instT 1 kB.ty [kInt10]).2 = 0 := by decide +kernel
theorem kInst2 : eqTy (instT 1 kB.ty [kInt10]).1 (fnK kInt10 kInt10) = true := by decide +kernel
def schB (x : Sch) : Bool := decide (x.ty.size < 2^28) && (((preTy x.ty).all fun u => decide (u.name.length < 2^40)) && allTy numB x.ty)
theorem Q47 {x : Sch} (h : schB x = true) : SchOK x := by
 simp only [schB, Bool.and_eq_true, decide_eq_true_eq, List.all_eq_true] at h
 exact ⟨h.1, QhH.2 h.2.1, h.2.2⟩
end Go.Am
namespace Go.Proofs.YtobelgghegmhhaaGreatDoor
open Go Go.Am
set_option linter.unusedVariables false
set_option maxRecDepth 4000
theorem Qb4 (x : Sch) (h : SchOK x) (s : St) : Ret (cw (.f ZW) [x.enc] s) s (.str (schemeT x.vars x.ty)) := by
 obtain ⟨vars, t⟩ := x
 cases hr : rightSB vars t with
 | false =>
   obtain ⟨s1, e1, g1⟩ := Zf vars t s (by have := h.size; simp only at this; omega) h.names
   have c := Ty.cells_eq t
   change cw _ _ _ = some (.ret (.val (.bool (rightSB vars t))), s1) at e1
   rw [Q5A]
   unfold schemeT
   rw [hr] at e1 ⊢
   simp only [go_sem, Nat.reduceAdd, Nat.reduceLeDiff, Sch.enc, Sch.cells, c] at e1 ⊢
   simp only [go_sem, e1]
   exact ⟨s1, rfl, g1⟩
 | true =>
   have r := Q0S hr
   have hv := h.var r.1
   exact Q93 vars t s h.size h.names (ZU t h.size) (QbG (p := fun n => decide (0 ≤ n) && decide (n ≤ 9223372036854775807)) (fun n hn => Qf3 r.2 (by simpa using hn)) t h.names hv) hv
theorem QiT {l : List AV} {off sz : Nat} {m : List AV} (h : sz = 1) (k : off + 1 ≤ l.length) (r : List (Nat × Nat × Slot)) : fillS l ((off, sz, .full m) :: r) = fillS (l.take off ++ ([.sl m] ++ l.drop (off + 1))) r := by
 subst h
 exact Qgi (x := .full m) (v := .sl m) rfl rfl rfl k r
theorem Q2G (n : Int) (s : St) : cw (.f Q02) [.int .i64 n] s = some (.ret (.val (tvar n).enc), s) := by
 rw [Qgt]
 simp only [go_sem, Nat.reduceAdd, Nat.reduceLeDiff, tvar, Ty.enc]
theorem Q0V (a b : Ty) (s : St) : cw (.f Q0J) [a.enc, b.enc] s = some (.ret (.val (fnK a b).enc), s) := by
 have ca := Ty.cells_eq a
 have cb := Ty.cells_eq b
 rw [QeZ]
 simp only [go_sem, Nat.reduceAdd, Nat.reduceLeDiff, fnK, Ty.enc, ca, cb, QiT]
theorem Q5m (x : Sch) (l : List Ty) (y : Slot) (hy : y.list? = some (l.map Ty.enc)) (hl : l.length < 2^40) (hs : ∀ t ∈ l, t.size < 2^40 ∧ NamesTy t) (hx : x.ty.size < 2^40 ∧ NamesTy x.ty) (s : St) : ∀ (suf pre : List Ty) (i : Nat), pre ++ suf = l → i = pre.length →
  Q1r y (x.cells.map .val) (.val (.int .i64 l.length)) (.val (.int .i64 i)) s = some (.ret (.val (.bool (suf.all (fun t => decide (fewT t 300 0 ≥ 0)) && (decide ((l.length : Int) < 300) && decide (fewT x.ty 400 0 ≥ 0))))), s)
 | [], pre, i, h, hi => by
   subst hi
   have c := Ty.cells_eq x.ty
   have e1 := Q9g x.ty 400 (by decide) s hx.1 hx.2
   rw [Q4K]
   simp only [Ty.enc, c] at e1
   cases hd : decide ((l.length : Int) < 300) with
   | true => simp only [go_sem, Nat.reduceAdd, Nat.reduceLeDiff, Sch.cells, c, Qf (by simpa using h), hy, List.length_map, hd, e1, List.all_nil]
   | false => simp only [go_sem, Nat.reduceAdd, Nat.reduceLeDiff, Sch.cells, c, Qf (by simpa using h), hy, List.length_map, hd, List.all_nil]
 | t :: suf, pre, i, h, hi => by
   subst hi
   obtain ⟨f1, f2, f3⟩ := Qc hy h (by omega) (Ty.cells_len t) (by decide)
   have ht := hs t (by rw [← h]; simp)
   have e1 := Q9g t 300 (by decide) s ht.1 ht.2
   rw [Q4K, List.all_cons]
   cases hd : decide (fewT t 300 0 ≥ 0) with
   | false =>
     rw [hd] at e1
     simp only [go_sem, Nat.reduceLeDiff, f1, f2, f3, e1]
   | true =>
     rw [hd] at e1
     have ih := Q5m x l y hy hl hs hx s suf (pre ++ [t]) (pre.length + 1) (by simpa using h) (by simp)
     simp only [go_sem, Nat.reduceLeDiff, f1, f2, f3, e1] at ih ⊢
     exact ih
theorem QaL (x : Sch) (l : List Ty) (v : AV) (hv : (Slot.val v).list? = some (l.map Ty.enc)) (hl : l.length < 2^40) (hs : ∀ t ∈ l, t.size < 2^40 ∧ NamesTy t) (hx : SchOK x) (s : St) : cw (.f Q37) [x.enc, v] s = some (.ret (.val (.bool (fewL x l))), s) := by
 have e1 := Q5m x l (.val v) hv hl hs ⟨by have := hx.size; omega, hx.names⟩ s l [] 0 rfl rfl
 rw [show ((0 : Nat) : Int) = 0 from rfl] at e1
 have c := Ty.cells_eq x.ty
 rw [QdB]
 simp only [go_sem, Nat.reduceAdd, Sch.enc, Sch.cells, c, hv, List.length_map] at e1 ⊢
 exact e1
theorem Q8L (a b : Sch) (ha : a.ty.size < 2^28) (s : St) : cw (.f Q3s) [a.enc, b.enc] s = some (.ret (.val (.bool (alikeS a b))), s) := by
 have ca := Ty.cells_eq a.ty
 have cb := Ty.cells_eq b.ty
 have e1 := Q4R a.ty b.ty s (by omega)
 rw [QaK]
 unfold alikeS
 simp only [Ty.enc, ca, cb] at e1
 cases hd : decide (a.vars = b.vars) with
 | false => simp only [go_sem, Nat.reduceAdd, Nat.reduceLeDiff, Sch.enc, Sch.cells, ca, cb, hd]
 | true => simp only [go_sem, Nat.reduceAdd, Nat.reduceLeDiff, Sch.enc, Sch.cells, ca, cb, hd, e1]
theorem Q4h (s : St) : Ret (cw (.f Q1V) [] s) s (.bool true) := by
 have v3 := fun s => Q2G 3 s
 have v5 := fun s => Q2G 5 s
 have v0 := fun s => Q2G 0 s
 have v1 := fun s => Q2G 1 s
 have f1 := fun s => Q0V (tvar 5) (tvar 3) s
 have f2 := fun s => Q0V (tvar 3) (fnK (tvar 5) (tvar 3)) s
 have f3 := fun s => Q0V (tvar 0) (tvar 1) s
 have f4 := fun s => Q0V (tvar 0) (tvar 0) s
 have f5 := fun s => Q0V kInt10 kInt10 s
 have okOf : SchOK ⟨0, kOf⟩ := Q47 (by decide +kernel)
 have okShow : SchOK ⟨1, kShow⟩ := Q47 (by decide +kernel)
 have okA : SchOK kA := Q47 (by decide +kernel)
 have okB : SchOK kB := Q47 (by decide +kernel)
 have okI : SchOK ⟨0, kInt10⟩ := Q47 (by decide +kernel)
 obtain ⟨s1, e1, g1⟩ := Q5z kOf [5] (.sl [.int .i64 5]) rfl (by decide) s okOf.size okOf.names
 rw [Qmy] at e1
 obtain ⟨s2, e2, g2⟩ := Q90 1 kB.ty [kInt10] false s1 okB.size okB.names (ZU _ okB.size) (by decide) (by
  intro u hu
  rw [List.mem_singleton.1 hu]
  exact ⟨by decide +kernel, okI.names, ZU _ okI.size⟩) (by decide +kernel)
 obtain ⟨s3, e3, g3⟩ := Qb4 ⟨1, kShow⟩ okShow s2
 obtain ⟨s4, e4, g4⟩ := Q4t kA kB okA okB s3
 obtain ⟨s5, e5, g5⟩ := Q4t kB kA okB okA s4
 have e6 := Q4R (instT 1 kB.ty [kInt10]).1 (fnK kInt10 kInt10) s5 (by decide +kernel)
 rw [kInst2] at e6
 rw [kInst1] at e2
 rw [show schemeT (Sch.mk 1 kShow).vars (Sch.mk 1 kShow).ty = _ from Qgr] at e3
 rw [show moreP kA.vars kA.ty kB.vars kB.ty = true from kMore1] at e4
 rw [show moreP kB.vars kB.ty kA.vars kA.ty = false from kMore2] at e5
 have cI := Ty.cells_eq (instT 1 kB.ty [kInt10]).1
 have cS := Ty.cells_eq kShow
 generalize hI : (instT 1 kB.ty [kInt10]).1 = I at *
 generalize hS : kShow = S at *
 simp only [kOf, kA, kB, kInt10, fnK, tvar, Sch.enc, Sch.cells, Ty.enc, Ty.cells_mk, List.map_cons, List.map_nil, Q9x, QiQ, cI, cS] at v3 v5 v0 v1 f1 f2 f3 f4 f5 e1 e2 e3 e4 e5 e6
 refine ⟨s5, ?_, (((g1.trans g2).trans g3).trans g4).trans g5⟩
 rw [QaM]
 simp only [go_sem, Nat.reduceAdd, Nat.reduceLeDiff, v3, v5, v0, v1, f1, f2, f3, f4, f5, e1, e2, e3, e4, e5, e6]
end Go.Proofs.YtobelgghegmhhaaGreatDoor
namespace Go.Am
open Go
mutual
theorem QhI : ∀ t : Ty, NamesTy t → NamesTy (ownTy t)
 | .mk k n s l b, h => by
   simp only [ownTy]
   exact Q4j h.name (Q9M l fun t ht => h.arg ht)
theorem Q9M : ∀ l : List Ty, (∀ t ∈ l, NamesTy t) → ∀ t ∈ ownTys l, NamesTy t
 | [], _, t, ht => by simp [ownTys] at ht
 | u :: l, h, t, ht => by
   simp only [ownTys, List.mem_cons] at ht
   rcases ht with rfl | ht
   ·exact QhI u (h u List.mem_cons_self)
   ·exact Q9M l (fun t ht => h t (List.mem_cons_of_mem _ ht)) t ht
end
mutual
theorem QbF {f : Int → Ty} (h : ∀ n, NamesTy (f n)) : ∀ t : Ty, NamesTy t → NamesTy (rebT f t)
 | .mk k n s l b, hn => by
   simp only [rebT]
   cases decide (k = 1) with
   | true => exact h n
   | false => rw [cond_false]; exact Q4j hn.name (Q9L h l (fun t ht => hn.arg ht))
theorem Q9L {f : Int → Ty} (h : ∀ n, NamesTy (f n)) : ∀ l : List Ty, (∀ t ∈ l, NamesTy t) → ∀ t ∈ rebTs f l, NamesTy t
 | [], hn, t, ht => by simp [rebTs] at ht
 | u :: l, hn, t, ht => by
   simp only [rebTs, List.mem_cons] at ht
   rcases ht with rfl | ht
   ·exact QbF h u (hn u List.mem_cons_self)
   ·exact Q9L h l (fun t ht => hn t (List.mem_cons_of_mem _ ht)) t ht
end
mutual
theorem QdV {f : Int → Ty} (h : ∀ n, 0 ≤ n → allTy numB (f n) = true) : ∀ t : Ty, allTy goodB t = true → allTy numB (rebT f t) = true
 | .mk k n s l b, hg => by
   simp only [allTy, Bool.and_eq_true] at hg
   simp only [rebT]
   cases hk : decide (k = 1) with
   | true => exact h n (Q2b hg.1 hk).1
   | false =>
     obtain ⟨-, rfl, -⟩ := Q2X hg.1 hk
     show (numI 0 && allTys numB (rebTs f l)) = true
     rw [QbI h l hg.2]; rfl
theorem QbI {f : Int → Ty} (h : ∀ n, 0 ≤ n → allTy numB (f n) = true) : ∀ l : List Ty, allTys goodB l = true → allTys numB (rebTs f l) = true
 | [], _ => rfl
 | t :: l, hg => by
   simp only [allTys, Bool.and_eq_true] at hg
   simp only [rebTs, allTys, QdV h t hg.1, QbI h l hg.2, Bool.and_self]
end
theorem Qja {n : Int} (h : -9223372036854775808 ≤ n ∧ n ≤ 9223372036854775807) : allTy numB (tvar n) = true := by
 show (numI n && allTys numB []) = true
 rw [Q8Q.2 h]; rfl
theorem Qj9 {old : List Int} (h : old.length < 2^40) (n : Int) : allTy numB (numF old n) = true := by
 refine Qja ?_
 unfold posV
 cases hp : placeI n old 0 with
 | none => decide
 | some j =>
   have := (Z9 hp).2.1
   simp only []; omega
theorem Qjb (v keep : List Int) : (oldS v keep).length ≤ v.length + v.length := by
 unfold oldS
 have h1 := List.length_filter_le (fun n => !hasI keep n) v
 have h2 := List.length_filter_le (fun n => hasI keep n) v
 rw [List.length_append]; omega
def ofSch (t : Ty) (keep : List Int) : Sch := ⟨(ofP t keep).1, (ofP t keep).2⟩
theorem Qp8 {t : Ty} (keep : List Int) (hs : t.size < 2^28) (hn : NamesTy t) : SchOK (ofSch t keep) := by
 unfold ofSch ofP
 cases hr : rightTyB t with
 | false => exact Q47 (show schB ⟨0, zeroTy⟩ = true by decide +kernel)
 | true =>
   have h1 := Q4N (numF (oldS (canonTy t).2 keep)) (QhJ _) t
   have h2 := Qhd t
   have h3 := Qjb (canonTy t).2 keep
   exact ⟨by simp only [cond_true]; omega, QbF (fun n => Q9O _) t hn, QdV (fun n _ => Qj9 (by omega) n) t (Q01 hr)⟩
end Go.Am
namespace Go.Proofs.YtobelgghegmhhaaGreatDoor
open Go Go.Am
set_option linter.unusedVariables false
set_option maxRecDepth 4000
section
variable {H : Type}
def GTyN (b : Nat) (t : Ty) : Prop := GTy b t ∧ allTy numB t = true
def GTysN (b : Nat) (l : List Ty) : Prop := GTys b l ∧ allTys numB l = true
theorem GTysN.nil : GTysN 0 [] := ⟨GTys.nil, rfl⟩
theorem GTysN.cons (m k : Nat) (t : Ty) (L : List Ty) (h : GTyN m t) (g : GTysN k L) : GTysN (m + k) (t :: L) :=
 ⟨GTys.cons m k t L h.1 g.1, by simp only [allTys, h.2, g.2, Bool.and_self]⟩
theorem QaE : ∀ (n : Nat) (d : DataW H) l, conv C.ti n Q3 d = some l → Rows.uptoBulk d < 2^30 → ∃ t : Ty, l = t.cells ∧ GTyN (Rows.uptoBulk d) t
 | 0, d, l, h, _ => by simp [conv] at h
 | 1, d, l, h, _ => by
   obtain ⟨parts, ls, rfl, hf, rfl⟩ := Q57 Qh4 h
   rcases parts with _ | ⟨d1, _ | ⟨d2, _ | ⟨d3, _ | ⟨d4, _ | _⟩⟩⟩⟩ <;> rcases ls with _ | ⟨l1, _ | ⟨l2, _ | ⟨l3, _ | ⟨l4, _ | _⟩⟩⟩⟩ <;> simp only [Fields, and_false] at hf
   simp [conv] at hf
 | n + 2, d, l, h, hb => by
   obtain ⟨parts, ls, rfl, hf, rfl⟩ := Q57 Qh4 h
   rcases parts with _ | ⟨d1, _ | ⟨d2, _ | ⟨d3, _ | ⟨d4, _ | _⟩⟩⟩⟩ <;> rcases ls with _ | ⟨l1, _ | ⟨l2, _ | ⟨l3, _ | ⟨l4, _ | _⟩⟩⟩⟩ <;> simp only [Fields, and_false] at hf
   obtain ⟨c1, c2, c3, c4, -⟩ := hf
   simp only [Rows.uptoBulk, Rows.uptoBulkAll] at hb ⊢
   obtain ⟨k, rfl, rfl, w1⟩ := Q5U Qg0 c1
   obtain ⟨m, rfl, rfl, w2⟩ := Q5U Q15 c2
   obtain ⟨s, rfl, rfl⟩ := QiK Qh c3
   simp only [Rows.uptoBulk] at hb ⊢
   obtain ⟨L, b, k', rfl, hL, hk⟩ := Qi3 Qiu Qd2 GTysN.nil GTysN.cons (fun d l h hb => QaE n d l h hb) d4 l4 c4 (by omega)
   refine ⟨.mk k m s L b, by rw [Ty.cells_mk]; rfl, ⟨by have := hL.1.1; simp only [Ty.size]; omega, fun a nd hn => ?_⟩, ?_⟩
   ·simp only [nodesTy, List.mem_cons] at hn
    rcases hn with rfl | hn
    ·simp only [TNode.ok, Ty.name]; omega
    ·exact hL.1.2 a nd hn
   ·have hm := wf64 w2
    show (numI m && allTys numB L) = true
    rw [hL.2, Q8Q.2 hm]; rfl
def GSch (b : Nat) (x : Sch) : Prop := GTyN b x.ty ∧ -9223372036854775808 ≤ x.vars ∧ x.vars ≤ 9223372036854775807
theorem Qjo : (C.ti Q7).k = .struct [(0, Q1), (1, Q3)] := by kernel_rfl
theorem GTyN.weaken {b b' : Nat} {t : Ty} (h : GTyN b t) (hb : b ≤ b') : GTyN b' t := ⟨⟨Nat.le_trans h.1.1 hb, h.1.2⟩, h.2⟩
theorem Qgc (n : Nat) (d : DataW H) (l : List AV) (h : conv C.ti n Q7 d = some l) (hb : Rows.uptoBulk d < 2^30) : ∃ x : Sch, l = x.cells ∧ GSch (Rows.uptoBulk d) x := by
 cases n with
 | zero => simp [conv] at h
 | succ n =>
   obtain ⟨parts, ls, rfl, hf, rfl⟩ := Q57 Qjo h
   rcases parts with _ | ⟨e1, _ | ⟨e2, _ | _⟩⟩ <;> rcases ls with _ | ⟨m1, _ | ⟨m2, _ | _⟩⟩ <;> simp only [Fields, and_false] at hf
   obtain ⟨c7, c8, -⟩ := hf
   simp only [Rows.uptoBulk, Rows.uptoBulkAll] at hb ⊢
   obtain ⟨vars, rfl, rfl, w7⟩ := Q5U Q15 c7
   simp only [Rows.uptoBulk] at hb ⊢
   obtain ⟨t, rfl, ht⟩ := QaE n e2 m2 c8 (by omega)
   have hw := wf64 w7
   exact ⟨⟨vars, t⟩, by simp [Sch.cells], ht.weaken (by omega), hw.1, hw.2⟩
def GInts (b : Nat) (l : List Int) : Prop := l.length ≤ b
theorem Qdy {n : Nat} : ∀ (ds : List (DataW H)) (xs : List AV), (ds.mapM fun d => (conv C.ti n Q1 d).bind (ofCells (C.ti Q1))) = some xs → ∃ L : List Int, xs = L.map ekI ∧ L.length ≤ Rows.uptoBulkAll ds
 | [], xs, h => by simp at h; subst h; exact ⟨[], rfl, Nat.zero_le _⟩
 | d :: ds, xs, h => by
   rw [List.mapM_cons] at h
   cases h2 : (conv C.ti n Q1 d) with
   | none => simp [h2] at h
   | some l =>
     obtain ⟨x, rfl, rfl, -⟩ := Q5U Q15 h2
     have h3 : ofCells (C.ti Q1) [.int .i64 x] = some (.int .i64 x) := by
      unfold ofCells
      rw [Q6F]; rfl
     cases h4 : (ds.mapM fun d => (conv C.ti n Q1 d).bind (ofCells (C.ti Q1))) with
     | none => simp [h2, h3, h4] at h
     | some ys =>
       simp [h2, h3, h4] at h
       subst h
       obtain ⟨L, rfl, hL⟩ := Qdy ds ys h4
       exact ⟨x :: L, rfl, by simp only [List.length_cons, Rows.uptoBulkAll, Rows.uptoBulk]; omega⟩
theorem QiL (n : Nat) (d : DataW H) (l : List AV) (h : conv C.ti n QM d = some l) (hb : Rows.uptoBulk d < 2^30) : ∃ L b, l = [encS b (L.map ekI)] ∧ GInts (Rows.uptoBulk d) L := by
 cases n with
 | zero => simp [conv] at h
 | succ n =>
   rcases Q9u Qh1 h with ⟨rfl, rfl⟩ | ⟨elems, spare, xs, rfl, h2, rfl⟩
   ·exact ⟨[], true, rfl, Nat.zero_le _⟩
   ·obtain ⟨L, rfl, hL⟩ := Qdy elems xs h2
    refine ⟨L, false, rfl, ?_⟩
    show L.length ≤ _
    simp only [Rows.uptoBulk]; omega
end
end Go.Proofs.YtobelgghegmhhaaGreatDoor
namespace Go.Proofs.YtobelgghegmhhaaGreatDoor
open Go Go.Am
set_option linter.unusedVariables false
set_option maxRecDepth 4000
theorem Qab (x : Sch) (h : SchOK x) (s : St) : Ret (cw (.f Z6) [x.enc] s) s (.bool (rightSB x.vars x.ty)) := Zf x.vars x.ty s (by have := h.size; omega) h.names
theorem GSch.ok {k : Nat} {x : Sch} (g : GSch k x) (h : k < 2^28) : SchOK x := ⟨by have := g.1.1.1; omega, g.1.1.2 0, g.1.2⟩
end Go.Proofs.YtobelgghegmhhaaGreatDoor
namespace Go.Am
open Go
def numL (old : List Int) (t : Ty) : Ty := .mk t.kind t.n t.name (numTs old t.args) true
theorem Qkx (old : List Int) (t : Ty) : numT old t = bif decide (t.kind = 1) && decide (0 ≤ placeR t.n old) then tvar (placeR t.n old) else numL old t := by cases t; rfl
end Go.Am
namespace Go.Proofs.YtobelgghegmhhaaGreatDoor
open Go Go.Am
set_option linter.unusedVariables false
set_option maxRecDepth 4000
def Num10OK (old : List Int) (v : AV) (t : Ty) : Prop := ∀ s, Ret (cw (.f Zl) [t.enc, v] s) s (numT old t).enc
theorem QbM (old : List Int) (v : AV) (t : Ty) (hl : t.args.length < 2^28) (s0 : St) (z : List Slot) (hz : z.length = 4) : ∀ (suf pre A : List Ty) (x : Slot) (s : St) (i : Nat), AccH Q3 s0.toks.length [] s x (A.map Ty.enc) → Moves [] [] [] s0 s → pre ++ suf = t.args → i = pre.length → A.length = pre.length → (∀ t ∈ suf, Num10OK old v t) →
  Ret (Q0d (.val v) (t.cells.map .val) z [.val (.int .i64 t.kind), .val (.int .i64 t.n), .val (.str t.name), x] (.val (.int .i64 t.args.length)) (.val (.int .i64 i)) s) s0 (Ty.mk t.kind t.n t.name (A ++ numTs old suf) true).enc
 | [], pre, A, x, s, i, hA, hM, h, hi, hn, H => by
   subst hi
   rw [Q3m]; simp only [go_sem, Nat.reduceAdd, Nat.reduceLeDiff, Ty.cells_eq, Qf (by simpa using h), Z5 hA.av, numTs, hz]
   exact ⟨_, by simp only [Ty.enc]; rw [Ty.cells_mk], hM.toGrew⟩
 | u :: suf, pre, A, x, s, i, hA, hM, h, hi, hn, H => by
   subst hi
   obtain ⟨f1, f2, f3⟩ := Qc (x := .val (encS t.nl (t.args.map Ty.enc))) (Qa _ _) h (by omega) (Ty.cells_len u) (by decide)
   obtain ⟨s1, e1, g1⟩ := H u List.mem_cons_self s
   have hlen : pre.length < t.args.length := by rw [← h]; simp
   have hM1 := hM.trans (.grew [] [] g1)
   obtain ⟨x1, s2, e2, a2, m2, -, -, -⟩ := tyAcc (A0 := []) (h0 := []) (h := []) (s0 := s0) (B := [numT old u]) (y := .full [(numT old u).enc]) (hA.move (.grew [] [] g1)) hM1 (by simp) rfl (by simp only [List.length_singleton]; omega)
   have ih := QbM old v t hl s0 z hz suf (pre ++ [u]) (A ++ [numT old u]) x1 s2 (pre.length + 1) a2 m2 (by simpa using h) (by simp) (by simp [hn]) (fun w hw => H w (List.mem_cons_of_mem _ hw))
   have c1 := a2.cellOk
   rw [Q3m]; rw [Ty.cells_eq] at ih ⊢; simp only [go_sem, Nat.reduceAdd, Nat.reduceLeDiff, f1, f2, f3, e1, e2, c1, numTs] at ih ⊢
   exact ih
theorem QbK (old : List Int) (v : AV) (t : Ty) (hl : t.args.length < 2^28) (z : List Slot) (hz : z.length = 4) (s : St) (H : ∀ u ∈ t.args, Num10OK old v u) : Ret (Q0b (.val v) (t.cells.map .val) z s) s (numL old t).enc := by
 have e1 := QbM old v t hl s z hz t.args [] [] (.val .nils) s 0 (.nil _ _ _ _) (.refl _ _ _) rfl rfl rfl H
 rw [show ((0 : Nat) : Int) = 0 from rfl] at e1
 have c := Ty.cells_eq t
 rw [Q7j]
 simp only [go_sem, Nat.reduceAdd, Nat.reduceLeDiff, c] at e1 ⊢
 exact e1
theorem QbL (old : List Int) (v : AV) (hv : (Slot.val v).list? = some (old.map ekI)) (ho : old.length < 2^40) (t : Ty) (hk : decide (t.kind = 1) = true) (hl : t.args.length < 2^28) (s : St) (H : ∀ u ∈ t.args, Num10OK old v u) : ∀ (suf pre : List Int) (i : Nat), pre ++ suf = old → i = pre.length →
  Ret (Q0c (.val v) (t.cells.map .val) [.val (.int .i64 0), .val (.int .i64 0), .val (.str []), .val .nils] (.val (.int .i64 old.length)) (.val (.int .i64 i)) s) s (match placeI t.n suf i with | some j => (tvar (j : Int)).enc | none => (numL old t).enc)
 | [], pre, i, h, hi => by
   subst hi
   have e1 := QbK old v t hl [.val (.int .i64 0), .val (.int .i64 0), .val (.str []), .val .nils] rfl s H
   rw [Q3l]
   simp only [go_sem, Nat.reduceAdd, Nat.reduceLeDiff, Qf (by simpa using h), placeI] at e1 ⊢
   exact e1
 | m :: suf, pre, i, h, hi => by
   subst hi
   have c := Ty.cells_eq t
   obtain ⟨f1, f2, f3⟩ := Qc (f := ekI) (sz := 1) hv h (by omega) rfl (by decide)
   simp only [ekI] at f2
   rw [Q3l]
   by_cases hm : m = t.n
   ·have hp : placeI t.n (m :: suf) pre.length = some pre.length := by simp [placeI, hm]
    rw [hp]
    simp only [go_sem, Nat.reduceAdd, Nat.reduceLeDiff, c, f1, f2, f3, decide_eq_true hm]
    exact ⟨s, by simp only [tvar, Ty.enc, Ty.cells_mk]; rfl, .refl s⟩
   ·have ih := QbL old v hv ho t hk hl s H suf (pre ++ [m]) (pre.length + 1) (by simpa using h) (by simp)
    have hp : placeI t.n (m :: suf) pre.length = placeI t.n suf (pre.length + 1) := by
     simp only [placeI]; rw [if_neg (fun e => hm e.symm)]
    rw [hp]
    simp only [go_sem, Nat.reduceAdd, Nat.reduceLeDiff, c, f1, f2, f3, decide_eq_false hm] at ih ⊢
    exact ih
theorem Q3I (old : List Int) (v : AV) (hv : (Slot.val v).list? = some (old.map ekI)) (ho : old.length < 2^40) : ∀ (k : Nat) (t : Ty), t.size ≤ k → t.size < 2^28 → Num10OK old v t
 | 0, t, h, _ => by have := Ty.size_pos t; omega
 | k + 1, t, h, h' => fun s => by
   have hsz : Ty.sizes t.args + 1 = t.size := by cases t; simp only [Ty.size, Ty.args]
   have hlen := Ty.len_sizes t.args
   have HV : ∀ u ∈ t.args, Num10OK old v u := fun u hu => by
    have h2 := Ty.mem_sizes hu
    exact Q3I old v hv ho k u (by omega) (by omega)
   have c := Ty.cells_eq t
   rw [Qkx, Qa7]
   cases hk : decide (t.kind = 1) with
   | false =>
     have e1 := QbK old v t (by omega) [.val (.int .i64 0), .val (.int .i64 0), .val (.str []), .val .nils] rfl s HV
     simp only [go_sem, Nat.reduceAdd, c, hk] at e1 ⊢
     exact e1
   | true =>
     have e1 := QbL old v hv ho t hk (by omega) s HV old [] 0 rfl rfl
     rw [show ((0 : Nat) : Int) = 0 from rfl] at e1
     have hr : (bif true && decide (0 ≤ placeR t.n old) then tvar (placeR t.n old) else numL old t).enc = (match placeI t.n old 0 with | some j => (tvar (j : Int)).enc | none => (numL old t).enc) := by
      unfold placeR
      cases placeI t.n old 0 with
      | none => rfl
      | some j =>
        simp only [Bool.true_and]
        rw [decide_eq_true (by omega)]; rfl
     rw [hr]
     simp only [go_sem, Nat.reduceAdd, c, hk, hv, List.length_map] at e1 ⊢
     exact e1
theorem Q2e (keep V : List Int) (v : AV) (y : Slot) (hv : (Slot.val v).list? = some (keep.map ekI)) (hk : keep.length < 2^40) (hy : y.list? = some (V.map ekI)) (hV : V.length < 2^28) (t : Ty) (ht : t.size < 2^28) (own : Nat) (s0 : St) : ∀ (suf pre A : List Int) (x : Slot) (s : St) (i : Nat), AccH Q1 s0.toks.length [] s x (A.map ekI) → Moves [] [] [] s0 s → pre ++ suf = V → i = pre.length → A.length + suf.length < 2^30 →
  Ret (Q1b (.val v) (t.cells.map .val) [.val (.int .i64 0), .val (.int .i64 0), .val (.int .i64 0), .val (.str []), .val .nils] y x (.val (.int .i64 own)) (.val (.int .i64 V.length)) (.val (.int .i64 i)) s) s0 (.agg (.int .i64 (own : Nat) :: (numT (A ++ suf.filter fun n => hasI keep n) t).cells))
 | [], pre, A, x, s, i, hA, hM, h, hi, hb => by
   subst hi
   have c := Ty.cells_eq t
   obtain ⟨nl, hav⟩ : ∃ nl, x.av = some (encS nl (A.map ekI)) := ⟨true, hA.av⟩
   obtain ⟨s1, e1, g1⟩ := Q3I A (encS nl (A.map ekI)) (Qa _ _) (by simp only [List.length_nil] at hb; omega) t.size t (Nat.le_refl _) ht s
   have cn' := Ty.cells_eq (numT A t)
   rw [Q5w]
   simp only [Ty.enc, c, cn'] at e1
   simp only [go_sem, Nat.reduceAdd, Nat.reduceLeDiff, c, Qf (by simpa using h), Z5 hav, e1, List.filter_nil, List.append_nil]
   exact ⟨s1, by rw [cn'], hM.toGrew.trans g1⟩
 | n :: suf, pre, A, x, s, i, hA, hM, h, hi, hb => by
   subst hi
   have c := Ty.cells_eq t
   obtain ⟨f1, f2, f3⟩ := Qc (f := ekI) (sz := 1) hy h (by omega) rfl (by decide)
   simp only [ekI] at f2
   simp only [List.length_cons] at hb
   have e1 := Q5y n keep v hv hk s
   rw [Q5w, List.filter_cons]
   cases hc : hasI keep n with
   | false =>
     rw [hc] at e1
     have ih := Q2e keep V v y hv hk hy hV t ht own s0 suf (pre ++ [n]) A x s (pre.length + 1) hA hM (by simpa using h) (by simp) (by omega)
     simp only [go_sem, Nat.reduceAdd, Nat.reduceLeDiff, f1, f2, f3, e1] at ih ⊢
     exact ih
   | true =>
     rw [hc] at e1
     obtain ⟨x1, s1, e2, a2, m2, -, -, -⟩ := intAcc (A0 := []) (h0 := []) (h := []) (s0 := s0) (B := [n]) (y := .full [.int .i64 n]) hA hM (by simp) rfl (by simp only [List.length_singleton]; omega)
     have ih := Q2e keep V v y hv hk hy hV t ht own s0 suf (pre ++ [n]) (A ++ [n]) x1 s1 (pre.length + 1) a2 m2 (by simpa using h) (by simp) (by simp; omega)
     have c1 := a2.cellOk
     rw [List.append_assoc] at ih
     simp only [go_sem, Nat.reduceAdd, Nat.reduceLeDiff, f1, f2, f3, e1, e2, c1, if_true, List.singleton_append] at ih ⊢
     exact ih
theorem Q2d (keep V : List Int) (v : AV) (y : Slot) (hv : (Slot.val v).list? = some (keep.map ekI)) (hk : keep.length < 2^40) (hy : y.list? = some (V.map ekI)) (hV : V.length < 2^28) (t : Ty) (ht : t.size < 2^28) (s0 : St) : ∀ (suf pre A : List Int) (x : Slot) (s : St) (i : Nat), AccH Q1 s0.toks.length [] s x (A.map ekI) → Moves [] [] [] s0 s → pre ++ suf = V → i = pre.length → A.length ≤ pre.length →
  Ret (Q1a (.val v) (t.cells.map .val) [.val (.int .i64 0), .val (.int .i64 0), .val (.int .i64 0), .val (.str []), .val .nils] y x (.val (.int .i64 V.length)) (.val (.int .i64 i)) s) s0 (.agg (.int .i64 ((A ++ suf.filter fun n => !hasI keep n).length : Nat) :: (numT ((A ++ suf.filter fun n => !hasI keep n) ++ V.filter fun n => hasI keep n) t).cells))
 | [], pre, A, x, s, i, hA, hM, h, hi, hb => by
   subst hi
   have hpl : pre.length = V.length := by rw [← h]; simp
   have e1 := Q2e keep V v y hv hk hy hV t ht A.length s0 V [] A x s 0 hA hM rfl rfl (by omega)
   rw [show ((0 : Nat) : Int) = 0 from rfl] at e1
   have hxl : lenO (x.list?) x = some (.val (.int .i64 A.length)) := by
    rw [hA.list?]; simp [lenO]
   rw [Q5v]
   simp only [go_sem, Qf (by simpa using h), hy, hA.list?, List.length_map, List.filter_nil, List.append_nil] at e1 ⊢
   exact e1
 | n :: suf, pre, A, x, s, i, hA, hM, h, hi, hb => by
   subst hi
   have c := Ty.cells_eq t
   obtain ⟨f1, f2, f3⟩ := Qc (f := ekI) (sz := 1) hy h (by omega) rfl (by decide)
   simp only [ekI] at f2
   have hlen : pre.length < V.length := by rw [← h]; simp
   have e1 := Q5y n keep v hv hk s
   rw [Q5v, List.filter_cons]
   cases hc : hasI keep n with
   | true =>
     rw [hc] at e1
     have ih := Q2d keep V v y hv hk hy hV t ht s0 suf (pre ++ [n]) A x s (pre.length + 1) hA hM (by simpa using h) (by simp) (by simp; omega)
     simp only [go_sem, Nat.reduceAdd, Nat.reduceLeDiff, f1, f2, f3, e1] at ih ⊢
     exact ih
   | false =>
     rw [hc] at e1
     obtain ⟨x1, s1, e2, a2, m2, -, -, -⟩ := intAcc (A0 := []) (h0 := []) (h := []) (s0 := s0) (B := [n]) (y := .full [.int .i64 n]) hA hM (by simp) rfl (by simp only [List.length_singleton]; omega)
     have ih := Q2d keep V v y hv hk hy hV t ht s0 suf (pre ++ [n]) (A ++ [n]) x1 s1 (pre.length + 1) a2 m2 (by simpa using h) (by simp) (by simp; omega)
     have c1 := a2.cellOk
     rw [List.append_assoc A [n]] at ih
     simp only [go_sem, Nat.reduceAdd, Nat.reduceLeDiff, f1, f2, f3, e1, e2, c1, if_true, List.singleton_append] at ih ⊢
     exact ih
theorem QcA (t : Ty) (keep : List Int) (v : AV) (hv : (Slot.val v).list? = some (keep.map ekI)) (hk : keep.length < 2^40) (s : St) (h : t.size < 2^28) (hn : NamesTy t) :
  Ret (cw (.f Q2r) [t.enc, v] s) s (.agg (.int .i64 (of10 t keep).1 :: (of10 t keep).2.cells)) := by
 obtain ⟨s1, e1, g1⟩ := Q4n t s h hn
 have c := Ty.cells_eq t
 rw [Qf9]
 unfold of10
 cases hr : rightTyB t with
 | false =>
   rw [hr] at e1
   simp only [go_sem, Nat.reduceAdd, Nat.reduceLeDiff, c, Ty.enc] at e1 ⊢
   simp only [go_sem, e1]
   exact ⟨s1, rfl, g1⟩
 | true =>
   rw [hr] at e1
   obtain ⟨x, s2, e2, a2, g2⟩ := Qa5 t s1 h
   have hlen : (varsTyR t).length ≤ t.size := by have := Qce (preTy t) []; rw [Q3g] at this; simpa [varsTyR] using this
   obtain ⟨s3, e3, g3⟩ := Q2d keep (varsTyR t) v x hv hk a2.list? (by omega) t h s2 (varsTyR t) [] [] (.val .nils) s2 0 (.nil _ _ _ _) (.refl _ _ _) rfl rfl (Nat.le_refl _)
   rw [show ((0 : Nat) : Int) = 0 from rfl] at e3
   refine ⟨s3, ?_, (g1.trans g2).trans g3⟩
   simp only [go_sem, Nat.reduceAdd, Nat.reduceLeDiff, c, Ty.enc] at e1 e2 e3 ⊢
   simp only [go_sem, e1, e2, Z5 a2.av, a2.list?, Qa, List.length_map]
   exact e3
end Go.Proofs.YtobelgghegmhhaaGreatDoor
namespace Go.Proofs.YtobelgghegmhhaaGreatDoor
open Go Go.Am
set_option linter.unusedVariables false
set_option maxRecDepth 4000
theorem Q6x (t : Ty) (keep : List Int) (nl : Bool) (x : Sch) (ht : t.size < 2^28) (hn : NamesTy t) (hk : keep.length < 2^40) (hx : SchOK x) (s : St) : Ret (cw (.f Q27) [t.enc, encS nl (keep.map ekI), x.enc] s) s (.bool true) := by
 have e1 := QaL x [t] (.sl [t.enc]) rfl (by simp) (by
  intro u hu
  rw [List.mem_singleton.1 hu]
  exact ⟨by omega, hn⟩) hx s
 have ct := Ty.cells_eq t
 have cx := Ty.cells_eq x.ty
 obtain ⟨s0, e0, g0⟩ := Q4h s
 rw [Q7P]
 cases hf : fewL x [t] with
 | false =>
   rw [hf] at e1
   simp only [Sch.enc, Sch.cells, cx, ct, Ty.enc] at e1 ⊢
   simp only [go_sem, Nat.reduceAdd, Nat.reduceLeDiff, e1, e0]
   exact ⟨s0, rfl, g0⟩
 | true =>
   rw [hf] at e1
   cases hl : decide ((keep.length : Int) > 300) with
   | true =>
     simp only [Sch.enc, Sch.cells, cx, ct, Ty.enc] at e1 ⊢
     simp only [go_sem, Nat.reduceAdd, Nat.reduceLeDiff, e1, Qa, List.length_map, hl, e0]
     exact ⟨s0, rfl, g0⟩
   | false =>
     clear e0 g0
     obtain ⟨s2, e2, g2⟩ := Q5z t keep (encS nl (keep.map ekI)) (Qa _ _) hk s ht hn
     obtain ⟨s3, e3, g3⟩ := QcA t keep (encS nl (keep.map ekI)) (Qa _ _) hk s2 ht hn
     rw [← QmB] at e3
     have hO : SchOK (ofSch t keep) := Qp8 keep ht hn
     have e4 := Q8L (ofSch t keep) (ofSch t keep) hO.size s3
     have hal : alikeS (ofSch t keep) (ofSch t keep) = true := by
      unfold alikeS
      rw [Qbt]; simp
     rw [hal] at e4
     obtain ⟨s5, e5, g5⟩ := Qab x hx s3
     obtain ⟨s6, e6, g6⟩ := Q4p x.vars x.ty s5 hx.size hx.names
     obtain ⟨s7, e7, g7⟩ := Qb4 x hx s6
     obtain ⟨s8, e8, g8⟩ := Q4S x hx s7
     obtain ⟨s9, e9, g9⟩ := Qb4 (ofSch t keep) hO s8
     obtain ⟨s10, e10, g10⟩ := Q4S (ofSch t keep) hO s9
     obtain ⟨s11, e11, g11⟩ := Q4h s10
     rw [← Q95 x.vars x.ty (fun hr => hx.var (Q0S hr).1)] at e8
     rw [← Q95 (ofSch t keep).vars (ofSch t keep).ty (fun hr => hO.var (Q0S hr).1)] at e10
     generalize rightSB x.vars x.ty = r at *
     generalize schemeT x.vars x.ty = q at *
     generalize schemeT (ofSch t keep).vars (ofSch t keep).ty = q' at *
     have hr : (r == r) = true := by simp
     have hq : decide (q = q) = true := by simp
     have hq' : decide (q' = q') = true := by simp
     have cO := Ty.cells_eq (ofP t keep).2
     refine ⟨s11, ?_, ((((((((g2.trans g3).trans g5).trans g6).trans g7).trans g8).trans g9).trans g10).trans g11)⟩
     simp only [ofSch, Sch.enc, Sch.cells, cx, ct, cO, Ty.enc] at e1 e2 e3 e4 e5 e6 e7 e8 e9 e10 ⊢
     simp only [go_sem, Nat.reduceAdd, Nat.reduceLeDiff, e1, Qa, List.length_map, hl, e2, e3, e4, e5, e6, e7, e8, e9, e10, e11, hr, hq, hq']
theorem Q74 {k0 k1 k2 : Nat} (t : Ty) (gt : GTyN k0 t) (keep : List Int) (nl : Bool) (gk : GInts k1 keep) (x : Sch) (gx : GSch k2 x) (hb : k0 + (k1 + (k2 + 0)) ≤ 1048576) : Ret (cw (.f Q27) [t.enc, encS nl (keep.map ekI), x.enc] st0) st0 (.bool true) :=
 Q6x t keep nl x (by have := gt.1.1; omega) (gt.1.2 0) (by have : keep.length ≤ k1 := gk; omega) (gx.ok (by omega)) st0
end Go.Proofs.YtobelgghegmhhaaGreatDoor