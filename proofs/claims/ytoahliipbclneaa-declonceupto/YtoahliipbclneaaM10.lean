/- A part of the proof: STree6, STree7, STy1, STy2, SDecl1, PTy2, PDecl, SDecl2, SMap. -/
import Derived.Test.YtoahliipbclneaaM3
import Derived.Test.YtoahliipbclneaaM8
import Derived.Test.YtoahliipbclneaaM9
set_option linter.unusedVariables false
set_option linter.unusedSimpArgs false
namespace Go.Am
open Go
def lay0 (L : List Obj) (cs : List Slot) (g : List Obj) (T : List Nat) : St := ⟨L ++ (.var cs :: g), T⟩
def lay (L : List Obj) (cs : List Slot) (g : List Obj) (o : Obj) (a : List Obj) (T : List Nat) : St := ⟨L ++ (.var cs :: (g ++ (o :: a))), T⟩
def reL (st : LSt) (p : Option AExit) : Obj → Obj
 | .loop _ _ f e ps a b => .loop st p f e ps a b
 | o => o
def isReady : Obj → Bool
 | .loop .ready none _ _ _ _ _ => true
 | _ => false
theorem Q2Y {o : Obj} (h : isReady o = true) : ∃ f e ps a b, o = .loop .ready none f e ps a b := by
 cases o with
 | loop st p f e ps a b => cases st <;> cases p <;> first | exact ⟨f, e, ps, a, b, rfl⟩ | cases h
 | _ => cases h
section
variable (L : List Obj) (cs cs' : List Slot) (g a : List Obj) (o : Obj) (T : List Nat) (t : TI) (p : Option AExit) (st : LSt)
@[go_sem] theorem Qfk : ldV t false (lay0 L cs g T) (.val (.vp L.length 0)) = ofSlots t (cs.take t.size) := by
  simp [ldV, lay0]
@[go_sem] theorem QnO : ldV t false (lay L cs g o a T) (.val (.vp L.length 0)) = ofSlots t (cs.take t.size) := Qfk ..
variable {cs cs'} in
@[go_sem] theorem QbI (h : cs'.length = cs.length) : stV (lay0 L cs g T) (.val (.vp L.length 0)) cs' = some (lay0 L cs' g T) := by
  simp [stV, lay0, putAt, h]
variable {cs cs'} in
@[go_sem] theorem Q9q (h : cs'.length = cs.length) : stV (lay L cs g o a T) (.val (.vp L.length 0)) cs' = some (lay L cs' g o a T) := QbI _ _ _ h
theorem Q5R : (lay L cs g o a T).locs[L.length + 1 + g.length]? = some o := by
 simp only [lay]
 rw [List.getElem?_append_right (by omega), show L.length + 1 + g.length - L.length = g.length + 1 by omega, List.getElem?_cons_succ, List.getElem?_append_right (by omega)]
 simp
theorem QcG (o' : Obj) : (lay L cs g o a T).locs.set (L.length + 1 + g.length) o' = L ++ (.var cs :: (g ++ (o' :: a))) := by
 simp only [lay]
 rw [List.set_append_right _ _ (by omega), show L.length + 1 + g.length - L.length = g.length + 1 by omega, List.set_cons_succ, List.set_append_right _ _ (by omega)]
 simp
variable {o} in
@[go_sem] theorem Q7Q (h : isReady o = true) : beginL (L.length + 1 + g.length) (lay L cs g o a T) = some (lay L cs g (reL .busy none o) a T) := by
  obtain ⟨f, e, ps, x, y, rfl⟩ := Q2Y h
  unfold beginL
  rw [Q5R]
  simp only [QcG]; rfl
variable {o} in
theorem Q4d (h : isReady o = true) (q : LSt) (r : Option AExit) : setLoop (L.length + 1 + g.length) q r (lay L cs g (reL st p o) a T) = some (lay L cs g (reL q r o) a T) := by
 obtain ⟨f, e, ps, x, y, rfl⟩ := Q2Y h
 unfold setLoop
 rw [Q5R]
 simp only [reL, QcG]; rfl
variable {o} in
theorem Q2t (h : isReady o = true) : reL .ready none o = o := by
 obtain ⟨f, e, ps, x, y, rfl⟩ := Q2Y h
 rfl
variable {o} in
theorem Qb1 (h : isReady o = true) (hs : st ≠ .busy) (kn kr : St → Res) (ke : Nat → St → Res) : endX (L.length + 1 + g.length) (lay L cs g (reL st p o) a T) kn kr ke = pendX p kn kr ke (lay L cs g (reL .exhausted p o) a T) := by
 have e1 := Q4d L cs g a T p st h .exhausted p
 obtain ⟨f, e, ps, x, y, rfl⟩ := Q2Y h
 simp only [reL] at e1 ⊢
 unfold endX
 rw [Q5R]
 cases st <;> first | (exact absurd rfl hs) | (simp only [e1]; rfl)
theorem QcF : (lay0 L cs g T).locs.length = L.length + 1 + g.length := by simp [lay0]; omega
theorem QcE : (lay0 L cs g T).addLoc o = lay L cs g o [] T := by simp [lay0, lay, St.addLoc]
end
theorem addVar (s : St) (cs : List Slot) : s.addLoc (.var cs) = lay0 s.locs cs [] s.toks := rfl
theorem Grew.lay0 {s : St} (cs : List Slot) (g : List Obj) (b : List Nat) : Grew s (lay0 s.locs cs g (s.toks ++ b)) := ⟨⟨_, rfl⟩, ⟨b, rfl⟩⟩
theorem Grew.lay {s : St} (cs : List Slot) (g : List Obj) (o : Obj) (a : List Obj) (b : List Nat) : Grew s (lay s.locs cs g o a (s.toks ++ b)) := ⟨⟨_, rfl⟩, ⟨b, rfl⟩⟩
theorem Grew.layE {s : St} (cs : List Slot) (g : List Obj) (o : Obj) (a : List Obj) : Grew s (Am.lay s.locs cs g o a s.toks) := ⟨⟨_, rfl⟩, ⟨[], by simp [Am.lay]⟩⟩
theorem Grew.of_lay0 {L : List Obj} {cs : List Slot} {T : List Nat} {s : St} (h : Grew (Am.lay0 L cs [] T) s) : ∃ g b, s = Am.lay0 L cs g (T ++ b) := by
 obtain ⟨⟨a, ha⟩, b, hb⟩ := h
 refine ⟨a, b, ?_⟩
 obtain ⟨l, t⟩ := s
 simp only [Am.lay0] at ha hb ⊢
 rw [ha, hb]; simp
end Go.Am
namespace Go.Proofs.Ytoahliipbclneaa
open Go Go.Am
set_option linter.unusedVariables false
set_option maxRecDepth 4000
def cstep (most : Int) (n : TNode) (k : Int) : Int × Bool := (bif n.isNode then IntKind.i64.wrap (k + 1) else k, !decide ((bif n.isNode then IntKind.i64.wrap (k + 1) else k) ≥ most))
theorem Q52 (most : Int) : ∀ (l : List TNode) (n : Nat), (n : Int) < most → n + l.length < 2^62 → walk (cstep most) l n = (if ((n + countN l : Nat) : Int) < most then (((n + countN l : Nat) : Int), true) else (most, false))
 | [], n, h, _ => by simp [walk, countN, h]
 | u :: l, n, h, hb => by
   simp only [List.length_cons] at hb
   have hw : IntKind.i64.wrap ((n : Int) + 1) = ((n + 1 : Nat) : Int) := by rw [wrap64 (by omega) (by omega)]; rfl
   simp only [walk, cstep]
   cases hu : u.isNode
   ·have e : countN (u :: l) = countN l := by simp [countN, hu]
    have e2 : (!decide ((n : Int) ≥ most)) = true := by simpa using h
    simp only [cond_false, e2, cond_true, e]
    exact Q52 most l n h (by omega)
   ·have e : countN (u :: l) = countN l + 1 := by simp [countN, hu]
    simp only [cond_true, hw, e]
    by_cases h2 : ((n + 1 : Nat) : Int) < most
    ·have e2 : (!decide (((n + 1 : Nat) : Int) ≥ most)) = true := by simpa using h2
     rw [e2, cond_true, Q52 most l (n + 1) h2 (by omega), show n + 1 + countN l = n + (countN l + 1) by omega]
    ·have e2 : (!decide (((n + 1 : Nat) : Int) ≥ most)) = false := by simpa using h2
     rw [e2, cond_false, if_neg (by omega)]
     congr 1; omega
def rstep (n : TNode) (b : TBad) : TBad × Bool := bif decide (n.bad.kind = 0) then (b, true) else (n.bad, false)
theorem Q8T : ∀ (l : List TNode) (b : TBad), walk rstep l b = bif l.all (fun n => decide (n.bad.kind = 0)) then (b, true) else (firstBad l, false)
 | [], b => rfl
 | u :: l, b => by
   simp only [walk, rstep, List.all_cons, firstBad]
   cases hu : decide (u.bad.kind = 0)
   ·rfl
   ·simp only [cond_true, Bool.true_and]
    exact Q8T l b
theorem Q5c : ∀ l : List TNode, l.all (fun n => decide (n.bad.kind = 0)) = true → firstBad l = .zero
 | [], _ => rfl
 | u :: l, h => by
   rw [List.all_cons, Bool.and_eq_true] at h
   rw [firstBad, h.1, cond_true]
   exact Q5c l h.2
theorem Qab (nd : TNode) (r : List AV) : boxCells (C.ti QA) (.val (nd.thing r)) = some ((nd.thing r).cells.map .val) := by cases nd <;> simp only [go_sem, Nat.reduceAdd, TNode.thing]
theorem Qac (nd : TNode) (r : List AV) (a b c d e f g h : Slot) : putAt [a, b, c, d, e, f, g, h] 0 ((nd.thing r).cells.map .val) = some ((nd.thing r).cells.map .val) := by cases nd <;> rfl
theorem Q8G (nd : TNode) (r : List AV) : aggO (C.ti QA) (avs (List.take 8 ((nd.thing r).cells.map .val))) = some (.val (nd.thing r)) := by cases nd <;> kernel_rfl
structure SeqOK (h : AV) (nodes : List TNode) : Prop where
 ok : ∃ g l, h = .fn g l ∧ (C.ext g).isSome = false ∧ ∀ (σ : Type) (step : TNode → σ → σ × Bool) (R : σ × Bool → St → Prop) (P : TNode → Prop) (loc : Nat), YOK step R P loc → (∀ n ∈ nodes, P n) → ∀ st s, R (st, true) s →
  ∃ v s', cw (.f g) (.yld loc :: l) s = some (.ret v, s') ∧ R (walk step nodes st) s'
theorem SeqOK.range {h : AV} {nodes : List TNode} (H : SeqOK h nodes) {σ : Type} {step : TNode → σ → σ × Bool} {R : σ × Bool → St → Prop} {P : TNode → Prop} {loc : Nat} (hY : YOK step R P loc) (hP : ∀ n ∈ nodes, P n) {st : σ} {s : St} (hR : R (st, true) s) (k : St → Res) :
  ∃ s', rangeC C cw (.val h) loc s k = k s' ∧ R (walk step nodes st) s' := by
 obtain ⟨g, l, rfl, he, H⟩ := H.ok
 obtain ⟨v, s', e, g'⟩ := H σ step R P loc hY hP st s hR
 refine ⟨s', ?_, g'⟩
 unfold rangeC
 have : tgtV (.val (.fn g l)) [] = some (.f g, l) := rfl
 rw [this]
 simp only [he, cond_false, e]
 rfl
theorem Q6z (l : List Dec) (nl : Bool) (s : St) (h : Dec.sizes l < 2^40) : ∃ q, cw (.f Q26) [encS nl (l.map Dec.enc)] s = some (.ret (.val q), s) ∧ SeqOK q (nodesDecs false l) := by
 refine ⟨.fn Q1q [.cp [encS nl (l.map Dec.enc)]], ?_, ⟨_, _, rfl, by kernel_rfl, fun σ step R P loc hY hP st s hR => ?_⟩⟩
 ·rw [Q8N]; simp only [go_sem]
 ·obtain ⟨s', e, g⟩ := (Qdw hY (Dec.sizes l)).2.2 l (Nat.le_refl _) h (encS nl (l.map Dec.enc)) false (by simp only [go_sem]) hP st s hR
  rw [Q6y]; simp only [go_sem, Nat.reduceAdd, Nat.reduceLeDiff, e]
  exact ⟨_, s', rfl, g⟩
theorem Q8K {h : AV} {nodes : List TNode} (H : SeqOK h nodes) (most : Nat) (hm : 0 < most) (hl : nodes.length < 2^61) (s : St) : Ret (cw (.f Q1B) [h, .int .i64 most] s) s (.int .i64 (min (countN nodes) most : Nat)) := by
 let o := Q2G (.val (.cp [.int .i64 most])) (.val (.vp s.locs.length 0))
 have ho : isReady o = true := rfl
 let R : Int × Bool → St → Prop := fun p s1 => s1 = lay s.locs [.val (.int .i64 p.1)] [] (bif p.2 then o else reL .done (some (.exit 0)) o) [] s.toks
 have hY : YOK (cstep most) R (fun _ => True) (s.locs.length + 1) := by
  rintro nd r st s1 - rfl
  simp only [cond_true]
  have b0 := Q5R s.locs [.val (.int .i64 st)] [] [] o s.toks
  rw [List.length_nil, Nat.add_zero] at b0
  rw [cw, Q9v b0]
  rw [Q7E]
  have b1 := Q7Q s.locs [.val (.int .i64 st)] [] [] s.toks ho
  have b2 : ∀ n st p q r, setLoop (s.locs.length + 1) q r (lay s.locs [.val (.int .i64 n)] [] (reL st p o) [] s.toks) = _ := fun n st p q r => Q4d s.locs [.val (.int .i64 n)] [] [] s.toks p st ho q r
  simp only [List.length_nil, Nat.add_zero] at b1
  simp only [go_sem, Nat.reduceAdd, Nat.reduceLeDiff, Qab, Qac, Q8G, b1]
  simp only [go_sem, Nat.reduceAdd, Nat.reduceLeDiff, ZB (show (Slot.val (nd.thing r)).av = some (nd.thing r) from rfl), Q4Z]
  have b3 : ∀ n st p v', stV (lay s.locs [.val (.int .i64 n)] [] (reL st p o) [] s.toks) (.val (.vp s.locs.length 0)) [.val v'] = _ := fun n st p v' => Q9q s.locs [] [] (reL st p o) s.toks rfl
  cases hn : nd.isNode
  ·simp only [go_sem, b2, cstep, hn]
   cases hd : decide (st ≥ (most : Int))
   ·simp only [go_sem]; exact ⟨_, rfl, by simp only [R, Bool.not_false, cond_true, Q2t ho]⟩
   ·simp only [go_sem]; exact ⟨_, rfl, by simp only [R, Bool.not_true, cond_false]⟩
  ·simp only [go_sem, b2, b3, cstep, hn]
   cases hd : decide (IntKind.i64.wrap (st + 1) ≥ (most : Int))
   ·simp only [go_sem]; exact ⟨_, rfl, by simp only [R, Bool.not_false, cond_true, Q2t ho]⟩
   ·simp only [go_sem]; exact ⟨_, rfl, by simp only [R, Bool.not_true, cond_false]⟩
 rw [QaE]
 simp only [go_sem, Nat.reduceAdd, addVar, QcF, QcE]
 obtain ⟨s', e, g⟩ := H.range hY (fun _ _ => trivial) (st := 0) (s := lay s.locs [.val (.int .i64 0)] [] o [] s.toks) rfl (fun s_10 => endX (s.locs.length + 1) s_10 (fun s_11 => bind1 (ldV (C.ti Q1) false s_11 (.val (.vp s.locs.length 0))) fun v16 => some (.ret v16, s_11)) (fun s_12 => some (.ret (.val (.int .i64 0)), s_12)) (fun j s_13 => bif Nat.beq j 0 then (bind1 (ldV (C.ti Q1) false s_13 (.val (.vp s.locs.length 0))) fun v16_1 => some (.ret v16_1, s_13)) else none))
 refine (congrArg (fun r => Ret r s (.int .i64 (min (countN nodes) most : Nat))) (Eq.trans rfl e)).mpr ?_
 have := Q52 most nodes 0 (by omega) (by omega)
 rw [Nat.zero_add] at this
 rw [show ((0 : Nat) : Int) = 0 from rfl] at this
 rw [this] at g
 have b2 : ∀ n st p, st ≠ .busy → ∀ kn kr ke, endX (s.locs.length + 1) (lay s.locs [.val (.int .i64 n)] [] (reL st p o) [] s.toks) kn kr ke = _ := fun n st p hs kn kr ke => Qb1 s.locs [.val (.int .i64 n)] [] [] s.toks p st ho hs kn kr ke
 subst g
 by_cases hc : (countN nodes : Int) < most
 ·rw [if_pos hc]
  simp only [cond_true]
  rw [← Q2t ho, b2 _ _ _ (by intro h; cases h), show min (countN nodes) most = countN nodes by omega]
  simp only [go_sem, Nat.reduceAdd, Nat.reduceLeDiff, pendX]
  exact Ret.mk (.layE _ _ _ _)
 ·rw [if_neg hc]
  simp only [cond_false]
  rw [b2 _ _ _ (by intro h; cases h), show min (countN nodes) most = most by omega]
  simp only [go_sem, Nat.reduceAdd, Nat.reduceLeDiff, pendX, Nat.beq]
  exact Ret.mk (.layE _ _ _ _)
def NumOK (d : AV) (n : Int) : Prop := ∃ g l, d = .fn g l ∧ ∀ s, cw (.f g) l s = some (.ret (.val (.int .i64 n)), s)
theorem QeZ (b : TBad) : aggO (C.ti Q7) (avs (List.take 3 (b.cells.map .val))) = some (.val b.enc) := by kernel_rfl
theorem Q8O {h d : AV} {nodes : List TNode} {n : Int} (H : SeqOK h nodes) (HD : NumOK d n) (hl : nodes.length < 2^61) (hn : ∀ nd ∈ nodes, nd.name.length < 2^40) (s : St) : Ret (cw (.f Q1E) [h, d] s) s (rightN nodes n).enc := by
 rw [QaI]
 obtain ⟨s1, e1, g1⟩ := Q8K H 8193 (by decide) hl (s.addLoc (.var (TBad.zero.cells.map .val)))
 obtain ⟨gf, gl, rfl, hd⟩ := HD
 rw [addVar] at e1 g1
 obtain ⟨g, b, rfl⟩ := g1.of_lay0
 have e0 : s.addLoc (.var (List.map .val (C.ti Q7).zero)) = lay0 s.locs (TBad.zero.cells.map .val) [] s.toks := rfl
 rw [e0]
 rw [show ((8193 : Nat) : Int) = 8193 from rfl] at e1
 have hT : ∃ c, s.toks ++ b = s.toks ++ c := ⟨b, rfl⟩
 generalize s.toks ++ b = T at *
 have k1 : ∀ v : List AV, v.length = 3 → ∀ r, Ret (some (.ret (.val r), lay0 s.locs (v.map .val) g T)) s r := fun v _ r => by obtain ⟨c, rfl⟩ := hT; exact Ret.mk (.lay0 _ _ _)
 have k2 : ∀ (v : List AV) o a r, Ret (some (.ret (.val r), lay s.locs (v.map .val) g o a T)) s r := fun v o a r => by obtain ⟨c, rfl⟩ := hT; exact Ret.mk (.lay _ _ _ _ _)
 have hst0 : ∀ x y z : AV, stV (lay0 s.locs (TBad.zero.cells.map .val) g T) (.val (.vp s.locs.length 0)) [.val x, .val y, .val z] = some (lay0 s.locs ([x, y, z].map .val) g T) := fun x y z => QbI _ _ _ rfl
 have hst : ∀ (c : TBad) o x y z, stV (lay s.locs (c.cells.map .val) g o [] T) (.val (.vp s.locs.length 0)) [.val x, .val y, .val z] = some (lay s.locs ([x, y, z].map .val) g o [] T) := fun c o x y z => Q9q _ _ _ _ _ rfl
 have hb : ∀ x y z : AV, aggO (C.ti Q7) (avs (List.take 3 ([x, y, z].map .val))) = some (.val (.agg [x, y, z])) := fun x y z => by kernel_rfl
 simp only [go_sem, Nat.reduceAdd, Nat.reduceLeDiff, e1, ZB (show (Slot.val h).av = some h from rfl), hd, hst0, hb]
 have hc : decide (((min (countN nodes) 8193 : Nat) : Int) > 8192) = decide (countN nodes > 8192) := by simp only [gt_iff_lt]; congr 1; rw [eq_iff_iff]; omega
 rw [hc]
 unfold rightN
 cases decide (countN nodes > 8192) with
 | true => simp only [go_sem]; exact k1 [_, _, _] rfl _
 | false =>
   cases decide (n > 100) with
   | true => simp only [go_sem]; exact k1 [_, _, _] rfl _
   | false =>
     simp only [go_sem, QcF, QcE]
     let o := Q2H (.val (.vp s.locs.length 0))
     have ho : isReady o = true := rfl
     let R : TBad × Bool → St → Prop := fun p s1 => s1 = lay s.locs (p.1.cells.map .val) g (bif p.2 then o else reL .done (some .ret) o) [] T
     have hY : YOK rstep R (fun nd => nd.name.length < 2^40) (s.locs.length + 1 + g.length) := by
      rintro nd r st s1 hP rfl
      simp only [cond_true]
      rw [cw, Q9v (Q5R _ _ _ _ _ _), Q7F]
      have b1 := Q7Q s.locs (st.cells.map .val) g [] T ho
      have b2 : ∀ (c : List AV) st p q r, setLoop (s.locs.length + 1 + g.length) q r (lay s.locs (c.map .val) g (reL st p o) [] T) = _ := fun c st p q r => Q4d s.locs (c.map .val) g [] T p st ho q r
      simp only [go_sem, Nat.reduceAdd, Nat.reduceLeDiff, Qab, Qac, Q8G, b1]
      simp only [go_sem, ZB (show (Slot.val (nd.thing r)).av = some (nd.thing r) from rfl), Q4x _ _ _ hP]
      unfold rstep
      generalize nd.bad = bd
      obtain ⟨k, a, nm⟩ := bd
      obtain ⟨k0, a0, nm0⟩ := st
      have b3 : ∀ p x y z x' y' z', stV (lay s.locs [.val x', .val y', .val z'] g (reL .busy p o) [] T) (.val (.vp s.locs.length 0)) [.val x, .val y, .val z] = some (lay s.locs ([x, y, z].map .val) g (reL .busy p o) [] T) := fun p x y z x' y' z' => Q9q _ _ _ _ _ rfl
      have b4 := b2 [.int .i64 k0, .int .i64 a0, .str nm0]
      have b5 := b2 [.int .i64 k, .int .i64 a, .str nm]
      simp only [List.map] at b3 b4 b5
      simp only [go_sem, Nat.reduceAdd, Nat.reduceLeDiff, TBad.enc, TBad.cells, b3, b4, b5]
      cases hk : decide (k = 0)
      ·simp only [go_sem]; exact ⟨_, rfl, by simp only [R, cond_false]; rfl⟩
      ·simp only [go_sem]; exact ⟨_, rfl, by simp only [R, cond_true, Q2t ho]; rfl⟩
     obtain ⟨s', e, gR⟩ := H.range hY hn (st := TBad.zero) (s := lay s.locs (TBad.zero.cells.map .val) g o [] T) rfl (fun s_11 => endX (s.locs.length + 1 + g.length) s_11 (fun s_12 => bindS (stV s_12 (.val (.vp s.locs.length 0)) [.val (.int .i64 0), .val (.int .i64 0), .val (.str [])]) fun s_15 => bind1 (ldV (C.ti Q7) false s_15 (.val (.vp s.locs.length 0))) fun v => some (.ret v, s_15)) (fun s_13 => bind1 (ldV (C.ti Q7) false s_13 (.val (.vp s.locs.length 0))) fun v => some (.ret v, s_13)) (fun j s_14 => bif Nat.beq j 0 then ( bindS (stV s_14 (.val (.vp s.locs.length 0)) [.val (.int .i64 0), .val (.int .i64 0), .val (.str [])]) fun s_16 => bind1 (ldV (C.ti Q7) false s_16 (.val (.vp s.locs.length 0))) fun v => some (.ret v, s_16)) else ( (none : Res))))
     refine (congrArg (fun r => Ret r s (firstBad nodes).enc) e).mpr ?_
     have b2 : ∀ (c : List AV) st p, st ≠ .busy → ∀ kn kr ke, endX (s.locs.length + 1 + g.length) (lay s.locs (c.map .val) g (reL st p o) [] T) kn kr ke = _ := fun c st p hs kn kr ke => Qb1 s.locs (c.map .val) g [] T p st ho hs kn kr ke
     rw [Q8T] at gR
     simp only [R] at gR
     subst gR
     cases ha : nodes.all fun nd => decide (nd.bad.kind = 0)
     ·simp only [cond_false]
      rw [b2 _ _ _ (by intro h; cases h)]
      simp only [go_sem, pendX, QeZ]
      exact k2 _ _ _ _
     ·simp only [cond_true]
      rw [← Q2t ho, b2 _ _ _ (by intro h; cases h), Q5c _ ha]
      simp only [go_sem, Nat.reduceAdd, Nat.reduceLeDiff, pendX, hst, hb]
      exact k2 [_, _, _] _ _ _
end Go.Proofs.Ytoahliipbclneaa
namespace Go.Am
open Go
def varOf (p : Pat) : List Str := bif decide (p.kind = 2) || decide (p.kind = 6) then [p.name] else []
mutual
def varsPat : Pat → List Str
 | .mk k a s n l b => varOf (.mk k a s n l b) ++ varsPats l
def varsPats : List Pat → List Str
 | [] => []
 | t :: l => varsPat t ++ varsPats l
end
theorem QeN (p : Pat) : (varOf p).length ≤ 1 := by unfold varOf; cases decide (p.kind = 2) <;> cases decide (p.kind = 6) <;> simp
mutual
theorem Qcn : ∀ t : Pat, (varsPat t).length ≤ t.size
 | .mk k a s n l b => by have h1 := QeN (.mk k a s n l b); have h2 := Q6k l; simp only [varsPat, Pat.size, List.length_append]; omega
theorem Q6k : ∀ l : List Pat, (varsPats l).length ≤ Pat.sizes l
 | [] => Nat.le_refl _
 | t :: l => by have h1 := Qcn t; have h2 := Q6k l; simp only [varsPats, Pat.sizes, List.length_append]; omega
end
theorem TNode.ok_name {n : TNode} (h : n.ok) : n.name.length < 2^40 := by
 cases n <;> first | exact h | exact h.1
@[go_sem] theorem QnE (f : FuncId) (v : AV) : fnS f [.val v] = some (.val (.fn f [v])) := id rfl
theorem AccR.relay {e : TypeId} {s s1 s2 : St} {x : Slot} {l : List AV} (h : AccR e s s1 x l) (ht : s2.toks = s1.toks) (hl : ∃ a, s2.locs = s.locs ++ a) : AccR e s s2 x l := by
 obtain ⟨⟨_, b, hb⟩, h2⟩ := h
 exact ⟨⟨hl, b, by rw [ht, hb]⟩, by rw [ht]; exact h2⟩
theorem Q1L {e : TypeId} {t : TI} {s s' : St} {x y x' : Slot} (h : appendS e t s x y = some (x', s')) : s'.locs = s.locs := by
 unfold appendS at h
 split at h
 ·split at h <;> cases h
  rfl
 ·cases hz : okSz t.size ‹List AV› with
  | false => rw [hz] at h; cases h
  | true =>
    rw [hz] at h
    simp only [cond_true] at h
    split at h
    ·revert h
     cases okSz t.size ‹List AV› with
     | false => intro h; cases h
     | true =>
       intro h
       simp only [cond_true] at h
       split at h <;> cases h
       rfl
    ·revert h
     cases okSz t.size ‹List AV› with
     | false => intro h; cases h
     | true =>
       intro h
       simp only [cond_true] at h
       split at h <;> cases h
       rfl
    ·split at h <;> cases h
     rfl
    ·cases h
 ·cases h
end Go.Am
namespace Go.Proofs.Ytoahliipbclneaa
open Go Go.Am
set_option linter.unusedVariables false
set_option maxRecDepth 4000
section
variable (R : Nat → List Str → St → Prop) (loc : Nat)
variable {R} {loc}
end
theorem Q8I (l : List Dec) (nl : Bool) (s : St) (h : Dec.sizes l < 2^26) (H : ∀ n ∈ nodesDecs false l, n.ok) : Ret (cw (.f Q3a) [encS nl (l.map Dec.enc)] s) s (rightN (nodesDecs false l) (deepDecs l 0)).enc := by
 obtain ⟨q, e1, hq⟩ := Q6z l nl s (by omega)
 have hlen := Q2D false l
 have hd : NumOK (.fn Q25 [.cp [encS nl (l.map Dec.enc)]]) (deepDecs l 0) := ⟨_, _, rfl, fun s => by
  rw [Q8H]; simp only [go_sem, Nat.reduceAdd, Nat.reduceLeDiff, Q69 l nl s (by omega)]⟩
 obtain ⟨s', e2, g2⟩ := Q8O hq hd (by omega) (fun nd hn => TNode.ok_name (H nd hn)) s
 revert e2
 generalize rightN _ _ = b
 intro e2
 obtain ⟨k, a, nm⟩ := b
 rw [QaD]; simp only [go_sem, Nat.reduceAdd, Nat.reduceLeDiff, e1, ZB (show (Slot.val q).av = some q from rfl), e2, TBad.enc, TBad.cells]
 exact Ret.mk g2
end Go.Proofs.Ytoahliipbclneaa
namespace Go.Proofs.Ytoahliipbclneaa
open Go Go.Am
set_option linter.unusedVariables false
set_option maxRecDepth 4000
section
variable (L V : Nat)
end
def TySameOK (t : Ty) : Prop := ∀ u s, cw (.f Q1t) [t.enc, u.enc] s = some (.ret (.val (.bool (eqTy t u))), s)
theorem Q6h (L M : List Ty) (x y : Slot) (hx : x.list? = some (L.map Ty.enc)) (hy : y.list? = some (M.map Ty.enc)) (hl : L.length < 2^40) (he : M.length = L.length) : ∀ (suf suf' pre pre' : List Ty) (s : St) (i : Nat), pre ++ suf = L → pre' ++ suf' = M → i = pre.length → pre'.length = pre.length → (∀ t ∈ suf, TySameOK t) →
  Qq y (.val (.fn Q1t [])) x (.val (.int .i64 L.length)) (.val (.int .i64 i)) s = some (.ret (.val (.bool (eqTys suf suf'))), s)
 | [], suf', pre, pre', s, i, h, g, hi, hp, H => by
   subst hi
   have : suf' = [] := by
    have h1 := congrArg List.length h
    have h2 := congrArg List.length g
    simp only [List.length_append, List.length_nil] at h1 h2
    exact List.eq_nil_of_length_eq_zero (by omega)
   subst this
   rw [Ze]; simp only [go_sem, Qa (by simpa using h), eqTys]
 | t :: suf, suf', pre, pre', s, i, h, g, hi, hp, H => by
   subst hi
   cases suf' with
   | nil =>
     have h1 := congrArg List.length h
     have h2 := congrArg List.length g
     simp only [List.length_append, List.length_nil, List.length_cons] at h1 h2
     omega
   | cons u suf' =>
     obtain ⟨f1, f2, f3⟩ := Q9 hx h (by omega) (Ty.cells_len t) (by decide)
     obtain ⟨-, g2, -⟩ := Q9 hy g (by omega) (Ty.cells_len u) (by decide)
     rw [hp] at g2
     have e1 := H t (List.mem_cons_self) u s
     have ih := Q6h L M x y hx hy hl he suf suf' (pre ++ [t]) (pre' ++ [u]) s (pre.length + 1) (by simpa using h) (by simpa using g) (by simp) (by simp [hp]) (fun w hw => H w (List.mem_cons_of_mem _ hw))
     rw [Ze]; simp only [go_sem, Nat.reduceAdd, Nat.reduceLeDiff, f1, f2, f3, g2, e1, ih, eqTys]
     cases eqTy t u <;> rfl
theorem QbK (L M : List Ty) (v w : AV) (hv : (Slot.val v).list? = some (L.map Ty.enc)) (hw : (Slot.val w).list? = some (M.map Ty.enc)) (hl : L.length < 2^40) (H : ∀ t ∈ L, TySameOK t) (s : St) : cw (.f QC) [v, w, .fn Q1t []] s = some (.ret (.val (.bool (eqTys L M))), s) := by
 rw [Q1e]; simp only [go_sem, hv, hw, List.length_map]
 by_cases he : M.length = L.length
 ·have h1 := Q6h L M (.val v) (.val w) hv hw hl he L M [] [] s 0 rfl rfl rfl rfl H
  rw [show ((0 : Nat) : Int) = 0 from rfl] at h1
  simp only [go_sem, decide_eq_true (show ((L.length : Int) = M.length) by omega), h1]
 ·simp only [go_sem, decide_eq_false (show ¬ ((L.length : Int) = M.length) by omega), Q5J L M (fun h => he h.symm)]
theorem Q8R : ∀ (k : Nat) (t : Ty), t.size ≤ k → WideTy t → TySameOK t
 | 0, .mk _ _ _ _ _, h, _ => by simp only [Ty.size] at h; omega
 | k + 1, .mk kd n nm l nl, h, h' => fun u s => by
   obtain ⟨k', n', nm', l', nl'⟩ := u
   simp only [Ty.size] at h
   have hl := h'.len
   have e1 := fun s => QbK l l' (encS nl (l.map Ty.enc)) (encS nl' (l'.map Ty.enc)) (Qk _ _) (Qk _ _) (by omega) (fun t ht => by
    have := Ty.mem_sizes ht
    exact Q8R k t (by omega) (h'.arg ht)) s
   rw [Qdu]
   simp only [go_sem, Nat.reduceAdd, Nat.reduceLeDiff, Ty.enc, e1, eqTy]
theorem QbL (t : Ty) (h : WideTy t) : TySameOK t := Q8R _ t (Nat.le_refl _) h
end Go.Proofs.Ytoahliipbclneaa
namespace Go.Proofs.Ytoahliipbclneaa
open Go Go.Am
set_option linter.unusedVariables false
set_option maxRecDepth 4000
theorem tyAcc {A0 h0 h : List Nat} {s0 s : St} {x y : Slot} {A B : List Ty} (a : AccH Q4 s0.toks.length h s x (A.map Ty.enc)) (M : Moves A0 h0 h s0 s) (hh : ∀ k ∈ h, k < s.toks.length) (hy : y.list? = some (B.map Ty.enc)) (b : A.length + B.length < 2^30) :
  ∃ x' s', appendS Q4 (C.ti Q4) s x y = some (x', s') ∧ AccH Q4 s0.toks.length h s' x' ((A ++ B).map Ty.enc) ∧ Moves A0 h0 h s0 s' ∧ s'.locs = s.locs ∧ (∀ k ∈ h, s'.toks[k]? = s.toks[k]?) ∧ (∀ k ∈ h, k < s'.toks.length) :=
 AccH.appendF a M hh hy (fun a => by rw [Zd]; exact Ty.cells_len a) (by rw [Zd]; decide) b (by rw [Q7L]; decide)
def OwnOK (t : Ty) : Prop := ∀ s, Ret (cw (.f Q28) [t.enc] s) s (ownTy t).enc
theorem Q7d (t : Ty) (hl : t.args.length < 2^28) (s0 : St) (z : List Slot) (hz : z.length = 4) : ∀ (suf pre A : List Ty) (x : Slot) (s : St) (i : Nat), AccH Q4 s0.toks.length [] s x (A.map Ty.enc) → Moves [] [] [] s0 s → pre ++ suf = t.args → i = pre.length → A.length = pre.length → (∀ t ∈ suf, OwnOK t) →
  Ret (Q2A z [.val (.int .i64 t.kind), .val (.int .i64 t.n), .val (.str t.name), x] (.val (encS t.nl (t.args.map Ty.enc))) (.val (.int .i64 t.args.length)) (.val (.int .i64 i)) s) s0 (Ty.mk t.kind t.n t.name (A ++ ownTys suf) true).enc
 | [], pre, A, x, s, i, hA, hM, h, hi, hn, H => by
   subst hi
   rw [Q6i]; simp only [go_sem, Nat.reduceAdd, Nat.reduceLeDiff, Qa (by simpa using h), ZB hA.av, ownTys, hz]
   exact ⟨_, by simp only [Ty.enc]; rw [Ty.cells_mk], hM.toGrew⟩
 | u :: suf, pre, A, x, s, i, hA, hM, h, hi, hn, H => by
   subst hi
   obtain ⟨f1, f2, f3⟩ := Q9 (x := .val (encS t.nl (t.args.map Ty.enc))) (Qk _ _) h (by omega) (Ty.cells_len u) (by decide)
   obtain ⟨s1, e1, g1⟩ := H u List.mem_cons_self s
   have hlen : pre.length < t.args.length := by rw [← h]; simp
   have hM1 := hM.trans (.grew [] [] g1)
   obtain ⟨x1, s2, e2, a2, m2, -, -, -⟩ := tyAcc (A0 := []) (h0 := []) (h := []) (s0 := s0) (B := [ownTy u]) (y := .full [(ownTy u).enc]) (hA.move (.grew [] [] g1)) hM1 (by simp) rfl (by simp only [List.length_singleton]; omega)
   have ih := Q7d t hl s0 z hz suf (pre ++ [u]) (A ++ [ownTy u]) x1 s2 (pre.length + 1) a2 m2 (by simpa using h) (by simp) (by simp [hn]) (fun w hw => H w (List.mem_cons_of_mem _ hw))
   have c1 := a2.cellOk
   rw [Q6i]; simp only [go_sem, Nat.reduceAdd, Nat.reduceLeDiff, f1, f2, f3, e1, e2, c1, ownTys] at ih ⊢
   exact ih
theorem Q4g : ∀ (k : Nat) (t : Ty), t.size ≤ k → WideTy t → OwnOK t
 | 0, .mk _ _ _ _ _, h, _ => by simp only [Ty.size] at h; omega
 | k + 1, .mk kd n nm l nl, h, h' => fun s => by
   simp only [Ty.size] at h
   have hl := h'.len
   have e1 := Q7d (.mk kd n nm l nl) (by simp only [Ty.args]; omega) s [.val (.int .i64 0), .val (.int .i64 0), .val (.str []), .val .nils] rfl l [] [] (.val .nils) s 0 (.nil _ _ _ _) (.refl _ _ _) rfl rfl rfl (fun t ht => by
    have := Ty.mem_sizes ht
    exact Q4g k t (by omega) (h'.arg ht))
   rw [show ((0 : Nat) : Int) = 0 from rfl] at e1
   rw [QeK]
   simp only [go_sem, Nat.reduceAdd, Nat.reduceLeDiff, Ty.enc, Ty.kind, Ty.n, Ty.name, Ty.args, Ty.nl, ownTy] at e1 ⊢
   exact e1
theorem Q8Q (nm : Str) (l : List Ty) (y : Slot) (hy : y.list? = some (l.map Ty.enc)) (hl : l.length < 2^28) (s0 : St) (z : List Slot) (hz : z.length = 4) : ∀ (suf pre A : List Ty) (x : Slot) (s : St) (i : Nat), AccH Q4 s0.toks.length [] s x (A.map Ty.enc) → Moves [] [] [] s0 s → pre ++ suf = l → i = pre.length → A.length = pre.length → (∀ t ∈ suf, OwnOK t) →
  Ret (Q3w z [.val (.int .i64 2), .val (.int .i64 0), .val (.str nm), x] y (.val (.int .i64 l.length)) (.val (.int .i64 i)) s) s0 (Ty.mk 2 0 nm (A ++ suf.map ownTy) true).enc
 | [], pre, A, x, s, i, hA, hM, h, hi, hn, H => by
   subst hi
   rw [Q7b]; simp only [go_sem, Nat.reduceAdd, Nat.reduceLeDiff, Qa (by simpa using h), ZB hA.av, hz]
   exact ⟨_, by simp only [Ty.enc]; rw [Ty.cells_mk], hM.toGrew⟩
 | u :: suf, pre, A, x, s, i, hA, hM, h, hi, hn, H => by
   subst hi
   obtain ⟨f1, f2, f3⟩ := Q9 hy h (by omega) (Ty.cells_len u) (by decide)
   obtain ⟨s1, e1, g1⟩ := H u List.mem_cons_self s
   have hlen : pre.length < l.length := by rw [← h]; simp
   have hM1 := hM.trans (.grew [] [] g1)
   obtain ⟨x1, s2, e2, a2, m2, -, -, -⟩ := tyAcc (A0 := []) (h0 := []) (h := []) (s0 := s0) (B := [ownTy u]) (y := .full [(ownTy u).enc]) (hA.move (.grew [] [] g1)) hM1 (by simp) rfl (by simp only [List.length_singleton]; omega)
   have ih := Q8Q nm l y hy hl s0 z hz suf (pre ++ [u]) (A ++ [ownTy u]) x1 s2 (pre.length + 1) a2 m2 (by simpa using h) (by simp) (by simp [hn]) (fun w hw => H w (List.mem_cons_of_mem _ hw))
   have c1 := a2.cellOk
   rw [Q7b]; simp only [go_sem, Nat.reduceAdd, Nat.reduceLeDiff, f1, f2, f3, e1, e2, c1] at ih ⊢
   exact ih
theorem Q32 (nm : Str) (l : List Ty) (v : AV) (hv : (Slot.val v).list? = some (l.map Ty.enc)) (hl : l.length < 2^28) (hw : ∀ t ∈ l, WideTy t) (s : St) : Ret (cw (.f Q27) [.str nm, v] s) s (ofTy nm l).enc := by
 have e1 := Q8Q nm l (.val v) hv (by omega) s [.val (.int .i64 0), .val (.int .i64 0), .val (.str []), .val .nils] rfl l [] [] (.val .nils) s 0 (.nil _ _ _ _) (.refl _ _ _) rfl rfl rfl (fun t ht => Q4g _ t (Nat.le_refl _) (hw t ht))
 rw [show ((0 : Nat) : Int) = 0 from rfl] at e1
 rw [QfO]
 simp only [go_sem, Nat.reduceAdd, Nat.reduceLeDiff, Ty.enc, hv, ofTy, List.length_map] at e1 ⊢
 exact e1
theorem Qdt (a b : Ty) (s : St) (ha : WideTy a) (hb : WideTy b) : Ret (cw (.f Q8Y) [a.enc, b.enc] s) s (fnTy a b).enc := by
 obtain ⟨s1, e1, g1⟩ := Q32 [45, 62] [a, b] (.sl [a.enc, b.enc]) rfl (by simp) (by simp; exact ⟨ha, hb⟩) s
 refine ⟨s1, ?_, g1⟩
 rw [QfN]
 simp only [go_sem, Nat.reduceLeDiff, Ty.enc, fnTy, ofTy] at e1 ⊢
 simp only [go_sem, Nat.reduceAdd, Nat.reduceLeDiff, e1]
section
variable {σ : Type} (to : Int → σ → Ty × σ) (g : Nat) (caps : List AV) (A : List Nat) (R : σ → List Nat → St → Prop) (P : σ → Prop)
structure ToOK : Prop where
 call : ∀ n st h s, R st h s → P (to n st).2 → ∃ s' h', cw (.f g) (.int .i64 n :: caps) s = some (.ret (.val (to n st).1.enc), s') ∧ R (to n st).2 h' s' ∧ Moves A h h' s s'
 held : ∀ st h s, R st h s → ∀ k ∈ h, k < s.toks.length
 stab : ∀ st h s s', R st h s → s'.locs = s.locs → (∀ k ∈ h, s'.toks[k]? = s.toks[k]?) → R st h s'
 mono : ∀ n st, P (to n st).2 → P st
variable {to g caps A R P}
mutual
theorem QdS (H : ToOK to g caps A R P) : ∀ (t : Ty) (st : σ), P (chTy to t st).2 → P st
 | .mk k n s l b, st, h => by
   simp only [chTy] at h
   cases hk : decide (k = 1) with
   | true => rw [hk] at h; exact H.mono n st h
   | false => rw [hk] at h; exact Q4G H l st h
theorem Q4G (H : ToOK to g caps A R P) : ∀ (l : List Ty) (st : σ), P (chTys to l st).2 → P st
 | [], st, h => h
 | t :: l, st, h => by
   simp only [chTys] at h
   exact QdS H t st (Q4G H l _ h)
end
def ChOK (to : Int → σ → Ty × σ) (g : Nat) (caps : List AV) (A : List Nat) (R : σ → List Nat → St → Prop) (P : σ → Prop) (t : Ty) : Prop :=
 ∀ st h s, R st h s → P (chTy to t st).2 → ∃ s' h', cw (.f Q18) [t.enc, .fn g caps] s = some (.ret (.val (chTy to t st).1.enc), s') ∧ R (chTy to t st).2 h' s' ∧ Moves A h h' s s'
theorem Q4y (H : ToOK to g caps A R P) (t : Ty) (hl : t.args.length < 2^28) (s0 : St) (h0 : List Nat) (z : List Slot) (hz : z.length = 4) : ∀ (suf pre B : List Ty) (x : Slot) (st : σ) (h : List Nat) (s : St) (i : Nat), AccH Q4 s0.toks.length h s x (B.map Ty.enc) → Moves A h0 h s0 s → R st h s → P (chTys to suf st).2 → pre ++ suf = t.args → i = pre.length → B.length = pre.length → (∀ t ∈ suf, ChOK to g caps A R P t) →
  ∃ s' h', Q0P (.val (.fn g caps)) z [.val (.int .i64 t.kind), .val (.int .i64 t.n), .val (.str t.name), x] (.val (encS t.nl (t.args.map Ty.enc))) (.val (.int .i64 t.args.length)) (.val (.int .i64 i)) s = some (.ret (.val (Ty.mk t.kind t.n t.name (B ++ (chTys to suf st).1) true).enc), s') ∧ R (chTys to suf st).2 h' s' ∧ Moves A h0 h' s0 s'
 | [], pre, B, x, st, h, s, i, hA, hM, hR, hP, hpre, hi, hn, HC => by
   subst hi
   refine ⟨s, h, ?_, hR, hM⟩
   rw [Q41]; simp only [go_sem, Nat.reduceAdd, Nat.reduceLeDiff, Qa (by simpa using hpre), ZB hA.av, chTys, hz]
   simp only [Ty.enc]; rw [Ty.cells_mk]
 | u :: suf, pre, B, x, st, h, s, i, hA, hM, hR, hP, hpre, hi, hn, HC => by
   subst hi
   obtain ⟨f1, f2, f3⟩ := Q9 (x := .val (encS t.nl (t.args.map Ty.enc))) (Qk _ _) hpre (by omega) (Ty.cells_len u) (by decide)
   have hlen : pre.length < t.args.length := by rw [← hpre]; simp
   simp only [chTys] at hP
   obtain ⟨s1, h1, e1, r1, m1⟩ := HC u List.mem_cons_self st h s hR (Q4G H suf _ hP)
   obtain ⟨x1, s2, e2, a2, m2, l2, t2, b2⟩ := tyAcc (B := [(chTy to u st).1]) (y := .full [(chTy to u st).1.enc]) (hA.move m1) (hM.trans m1) (H.held _ _ _ r1) rfl (by simp only [List.length_singleton]; omega)
   have r2 := H.stab _ _ _ s2 r1 l2 t2
   obtain ⟨s3, h3, e3, r3, m3⟩ := Q4y H t hl s0 h0 z hz suf (pre ++ [u]) (B ++ [(chTy to u st).1]) x1 (chTy to u st).2 h1 s2 (pre.length + 1) a2 m2 r2 hP (by simpa using hpre) (by simp) (by simp [hn]) (fun w hw => HC w (List.mem_cons_of_mem _ hw))
   refine ⟨s3, h3, ?_, r3, m3⟩
   have c1 := a2.cellOk
   rw [Q41]; simp only [go_sem, Nat.reduceAdd, Nat.reduceLeDiff, f1, f2, f3, e1, e2, c1, chTys] at e3 ⊢
   exact e3
theorem Q4z (H : ToOK to g caps A R P) : ∀ (k : Nat) (t : Ty), t.size ≤ k → WideTy t → ChOK to g caps A R P t
 | 0, .mk _ _ _ _ _, h, _ => by simp only [Ty.size] at h; omega
 | k + 1, .mk kd n nm l nl, hs, hs' => fun st h s hR hP => by
   simp only [Ty.size] at hs
   have hl := hs'.len
   simp only [chTy] at hP ⊢
   rw [QbM]
   by_cases hk : kd = 1
   ·rw [decide_eq_true hk, cond_true] at hP
    obtain ⟨s1, h1, e1, r1, m1⟩ := H.call n st h s hR hP
    refine ⟨s1, h1, ?_, by rw [decide_eq_true hk]; exact r1, m1⟩
    simp only [go_sem, Nat.reduceAdd, Nat.reduceLeDiff, Ty.enc, decide_eq_true hk, e1, cond_true]
   ·rw [decide_eq_false hk, cond_false] at hP
    obtain ⟨s1, h1, e1, r1, m1⟩ := Q4y H (.mk kd n nm l nl) (by simp only [Ty.args]; omega) s h [.val (.int .i64 0), .val (.int .i64 0), .val (.str []), .val .nils] rfl l [] [] (.val .nils) st h s 0 (.nil _ _ _ _) (.refl _ _ _) hR hP rfl rfl rfl (fun t ht => by
     have := Ty.mem_sizes ht
     exact Q4z H k t (by omega) (hs'.arg ht))
    refine ⟨s1, h1, ?_, by rw [decide_eq_false hk]; exact r1, m1⟩
    rw [show ((0 : Nat) : Int) = 0 from rfl] at e1
    simp only [go_sem, Nat.reduceAdd, Nat.reduceLeDiff, Ty.enc, Ty.kind, Ty.n, Ty.name, Ty.args, Ty.nl, decide_eq_false hk, cond_false] at e1 ⊢
    exact e1
end
theorem QfM (l : List Ty) (v : AV) (hv : (Slot.val v).list? = some (l.map Ty.enc)) (hl : l.length < 2^40) (hs : ∀ t ∈ l, WideTy t) : ToOK (toPut l) Q4B [.cp [v]] [] (fun _ h _ => h = []) (fun _ => True) where
 call n st h s hR _ := by
  subst hR
  have hvl : (ofCells (C.ti Q8) (List.take (C.ti Q8).size [v])) = some v := by
   simp only [go_sem, Nat.reduceAdd, Nat.reduceLeDiff]
  by_cases hn : 0 ≤ n ∧ n < l.length
  ·obtain ⟨m, rfl⟩ := Int.eq_ofNat_of_zero_le hn.1
   have hm : m < l.length := by omega
   obtain ⟨s1, e1, g1⟩ := Q4g _ l[m] (Nat.le_refl _) (hs _ (List.getElem_mem hm)) s
   refine ⟨s1, [], ?_, rfl, .grew _ _ g1⟩
   have hix : ixS 4 (.val v) (.val (.int .i64 (m : Int))) = some (.val (.cp l[m].cells)) := Q1v hv (v := l[m].enc) (by simp [hm]) (Ty.cells_len _) (by decide)
   have hge : decide ((m : Int) ≥ 0) = true := decide_eq_true (by omega)
   have hlt : decide ((m : Int) < (l.length : Int)) = true := decide_eq_true (by omega)
   rw [Q7c]
   simp only [go_sem, Nat.reduceAdd, Nat.reduceLeDiff, hge, hv, List.length_map, hlt, hix, Ty.enc] at e1 ⊢
   simp only [go_sem, Nat.reduceAdd, Nat.reduceLeDiff, e1, toPut, hn, and_self, if_true]
   simp [hm]
  ·refine ⟨s, [], ?_, rfl, .refl _ _ _⟩
   rw [Q7c]
   simp only [toPut, if_neg hn]
   by_cases h0 : n ≥ 0
   ·have hlt : decide (n < (l.length : Int)) = false := decide_eq_false (by omega)
    simp only [go_sem, Nat.reduceAdd, Nat.reduceLeDiff, decide_eq_true h0, hv, hlt, Ty.enc, tvar]
   ·simp only [go_sem, Nat.reduceAdd, Nat.reduceLeDiff, decide_eq_false h0, Ty.enc, tvar]
 held := by rintro _ _ _ rfl k hk; cases hk
 stab := by rintro _ _ _ _ rfl _ _; rfl
 mono := fun _ _ _ => trivial
theorem Qcl (t : Ty) (l : List Ty) (nl : Bool) (s : St) (ht : WideTy t) (hl : l.length < 2^40) (hs : ∀ t ∈ l, WideTy t) : Ret (cw (.f Q7m) [t.enc, encS nl (l.map Ty.enc)] s) s (putTy t l).enc := by
 obtain ⟨s1, h1, e1, r1, m1⟩ := Q4z (QfM l (encS nl (l.map Ty.enc)) (Qk _ _) hl hs) _ t (Nat.le_refl _) ht () [] s rfl trivial
 subst r1
 refine ⟨s1, ?_, m1.toGrew⟩
 rw [QeJ]
 simp only [go_sem, Nat.reduceLeDiff, Ty.enc, putTy] at e1 ⊢
 simp only [go_sem, Nat.reduceAdd, Nat.reduceLeDiff, e1]
def ekI (n : Int) : AV := .int .i64 n
def oldV (old : List Int) (n : Int) : Option Int := match placeI n old 0 with | some i => some (i : Int) | none => none
structure OldR (ml pl ol : Nat) (old : List Int) (h : List Nat) (s : St) : Prop where
 mp : s.locs[pl]? = some (.var [.val (.mp ml)])
 map : ∃ es c D, s.locs[ml]? = some (.map es c) ∧ MapIs ekI ekI (oldV old) es c D
 old : ∃ x, s.locs[ol]? = some (.var [x]) ∧ HeldIs Q1 s x (old.map ekI) h
end Go.Proofs.Ytoahliipbclneaa
namespace Go.Proofs.Ytoahliipbclneaa
open Go Go.Am
set_option linter.unusedVariables false
set_option maxRecDepth 4000
def CloneOK (t : Ty) : Prop := ∀ s, Ret (cw (.f Zz) [t.enc] s) s t.enc
theorem Ty.ofC (t : Ty) : ofCells (C.ti Q4) t.enc.cells = some t.enc := Q2m QaR (by rw [Zd]; exact Ty.cells_len t)
theorem Ty.plainC (t : Ty) : ∀ x ∈ t.cells, plainV x = true := by
 rw [Ty.cells_eq]
 intro x hx
 simp only [List.mem_cons, List.not_mem_nil, or_false] at hx
 rcases hx with rfl | rfl | rfl | rfl
 ·rfl
 ·rfl
 ·rfl
 ·cases hb : t.nl <;> cases t.args <;> rfl
theorem Q3K (t : Ty) (hl : t.args.length < 2^28) (s0 : St) (loc : Nat) (hloc : s0.locs.length ≤ loc) (z : List Slot) (hz : z.length = 4) : ∀ (suf pre : List Ty) (s : St) (i : Nat), Grew s0 s → Holds s loc (t.args.map Ty.enc) → pre ++ suf = t.args → i = pre.length → (∀ u ∈ suf, CloneOK u) →
  Ret (Q0s [.val (.int .i64 t.kind), .val (.int .i64 t.n), .val (.str t.name), .val (.vs loc Q4 4 0 t.args.length)] z (.val (.vs loc Q4 4 0 t.args.length)) (.val (.int .i64 t.args.length)) (.val (.int .i64 i)) s) s0 (.agg [.int .i64 t.kind, .int .i64 t.n, .str t.name, .sl (t.args.map Ty.enc)])
 | [], pre, s, i, hg, hh, h, hi, H => by
   subst hi
   have hf := hh.frz (ti := C.ti) (e := Q4) (fun v hv => by
    obtain ⟨u, _, rfl⟩ := List.mem_map.1 hv
    exact ⟨by rw [Zd]; exact Ty.cells_len u, Ty.ofC u⟩) (fun v hv => by
    obtain ⟨u, _, rfl⟩ := List.mem_map.1 hv
    exact Ty.plainC u) (by rw [Zd]; decide)
   rw [Zd, List.length_map] at hf
   rw [Q0n]; simp only [go_sem, Nat.reduceAdd, Nat.reduceLeDiff, Qa (by simpa using h), frzSlots, Q46, Q47, Q5A, hf, hz]
   exact ⟨_, rfl, Q3R hg hloc _⟩
 | u :: suf, pre, s, i, hg, hh, h, hi, H => by
   subst hi
   have hlt : pre.length < t.args.length := by rw [← h]; simp
   obtain ⟨f1, -, f3⟩ := Q9 (f := Ty.enc) (x := .val (encS t.nl (t.args.map Ty.enc))) (Qk _ _) h (by omega) (Ty.cells_len u) (by decide)
   have hat : (t.args.map Ty.enc)[pre.length]? = some u.enc := by rw [← h]; simp
   have hsz : ∀ v ∈ t.args.map Ty.enc, v.cells.length = 4 := fun v hv => by
    obtain ⟨w, _, rfl⟩ := List.mem_map.1 hv
    exact Ty.cells_len w
   have f2 := hh.ld (t := C.ti Q4) (by rw [Zd]; exact hsz) hat
   rw [Zd] at f2
   obtain ⟨s1, e1, g1⟩ := H u List.mem_cons_self s
   have f4 : stV s1 (.val (.vp loc (pre.length * 4))) (u.cells.map .val) = some s1 := (hh.move g1).st hsz hat
   have f5 := Qej (sz := 4) (loc := loc) (lo := 0) (m := t.args.length) (e := Q4) (k := .i64) (n := pre.length) hlt (by decide)
   rw [Nat.zero_add] at f5
   have ih := Q3K t hl s0 loc hloc z hz suf (pre ++ [u]) s1 (pre.length + 1) (hg.trans g1) (hh.move g1) (by simpa using h) (by simp) (fun w hw => H w (List.mem_cons_of_mem _ hw))
   rw [Q0n]; simp only [go_sem, Nat.reduceAdd, Nat.reduceLeDiff, f1, f2, f3, f4, f5, e1] at ih ⊢
   exact ih
theorem Qan (s : St) : cw (.f QS) [.nils] s = some (.ret (.val .nils), s) := by
 rw [ZX]; simp only [go_sem, Qfb Q4D]
theorem Q7T (s : St) : cw (.f QS) [.sl []] s = some (.ret (.full []), s) := by
 rw [ZX]; simp only [go_sem, Qea Q4D, appendV, isArrS]
theorem Q93 (l : List Ty) (hl : l.length < 2^28) (h0 : l ≠ []) (s : St) : cw (.f QS) [.sl (l.map Ty.enc)] s = some (.ret (.val (.vs s.locs.length Q4 4 0 l.length)), s.addLoc (.var ((flatL (l.map Ty.enc)).map .val))) := by
 have e1 := QbW (e := Q4) (t := C.ti Q4) (s := s) (y := .val (.sl (l.map Ty.enc))) (l := l.map Ty.enc) rfl (by simpa using h0) (fun v hv => by
   obtain ⟨u, _, rfl⟩ := List.mem_map.1 hv
   rw [Zd]; exact Ty.cells_len u) (by rw [Zd]; decide) (by rw [Q7L, List.length_map]; omega) (by rw [List.length_map]; omega)
 rw [Zd, List.length_map] at e1
 rw [ZX]; simp only [go_sem, Qea Q4D, e1]
theorem Q0F : ∀ (k : Nat) (t : Ty), t.size ≤ k → WideTy t → CloneOK t
 | 0, .mk _ _ _ _ _, h, _ => by simp only [Ty.size] at h; omega
 | k + 1, .mk kd n nm l nl, h, h' => fun s => by
   simp only [Ty.size] at h
   have hl := h'.len
   rw [Qaq]
   cases l with
   | nil =>
     cases nl with
     | true =>
       simp only [go_sem, Nat.reduceAdd, Nat.reduceLeDiff, Qan, Ty.enc, Ty.cells_mk, List.map_nil]
       rw [Q0n]
       simp only [go_sem, Int.reduceAdd, Nat.reduceAdd, Nat.reduceLeDiff, frzSlots, Q46, Q47, Qba, Q5A]
       exact Ret.same _ _
     | false =>
       simp only [go_sem, Nat.reduceAdd, Nat.reduceLeDiff, Q7T, Ty.enc, Ty.cells_mk, List.map_nil, Q1R]
       rw [Q0n]
       simp only [go_sem, Int.reduceAdd, Nat.reduceAdd, Nat.reduceLeDiff, frzSlots, Q46, Q47, Qb9, Q5A]
       exact Ret.same _ _
   | cons u l =>
     have e1 := Q3K (.mk kd n nm (u :: l) nl) (by simp only [Ty.args]; omega) s s.locs.length (Nat.le_refl _) [.val (.int .i64 0), .val (.int .i64 0), .val (.str []), .val .nils] rfl (u :: l) [] (s.addLoc (.var ((flatL ((u :: l).map Ty.enc)).map .val))) 0 ((Grew.refl s).addLoc _) (by simp [Holds, St.addLoc, Ty.args]) rfl rfl (fun t ht => by
      have := Ty.mem_sizes ht
      exact Q0F k t (by omega) (h'.arg ht))
     rw [show ((0 : Nat) : Int) = 0 from rfl] at e1
     have e2 := Q93 (u :: l) hl (by simp) s
     simp only [List.map_cons] at e2
     simp only [go_sem, Nat.reduceAdd, Nat.reduceLeDiff, Ty.enc, Ty.kind, Ty.n, Ty.name, Ty.args, e2, List.map_cons] at e1 ⊢
     exact e1
end Go.Proofs.Ytoahliipbclneaa
namespace Go.Am
open Go
mutual
theorem Qe9 : ∀ t : Ty, eqTy t t = true
 | .mk k n s l b => by simp only [eqTy, Q89 l, decide_true, Bool.and_self]
theorem Q89 : ∀ l : List Ty, eqTys l l = true
 | [] => by simp only [eqTys]
 | t :: l => by simp only [eqTys, Qe9 t, Q89 l, Bool.and_self]
end
theorem Q9P {k n : Int} {s : Str} {l : List Ty} {b : Bool} (h : goodB (.mk k n s l b) = true) (hk : k = 1) : 0 ≤ n ∧ s = [] ∧ l = [] := by
 have h : goodC k n s l.length (lowB s) = true := h
 unfold goodC at h
 simp only [decide_eq_true hk, cond_true, Bool.and_eq_true, decide_eq_true_eq] at h
 exact ⟨h.1.1, h.1.2, List.eq_nil_of_length_eq_zero (by omega)⟩
mutual
theorem QgD (L : List Ty) : ∀ t : Ty, allTy goodB t = true → putR L t = (chTy (toPut L) t ()).1
 | .mk k n s l b, h => by
   simp only [allTy, Bool.and_eq_true] at h
   simp only [putR, chTy]
   by_cases hk : k = 1
   ·obtain ⟨h0, rfl, rfl⟩ := Q9P h.1 hk
    simp only [decide_eq_true hk, cond_true, toPut]
    split
    ·rfl
    ·simp only [ownTy, ownTys, tvar, hk]
   ·simp only [decide_eq_false hk, cond_false, QbC L l h.2]
theorem QbC (L : List Ty) : ∀ l : List Ty, allTys goodB l = true → putRs L l = (chTys (toPut L) l ()).1
 | [], _ => by simp only [putRs, chTys]
 | t :: l, h => by
   simp only [allTys, Bool.and_eq_true] at h
   simp only [putRs, chTys, QgD L t h.1, QbC L l h.2]
end
theorem Q8s (n : Int) (l : List Int) : placeR n l < 0 ↔ placeI n l 0 = none := by
 unfold placeR
 cases h : placeI n l 0 with
 | none => simp
 | some j => simp
theorem Qad : ∀ (a b : List Ty) (acc : List Int), varsL (a ++ b) acc = varsL b (varsL a acc)
 | [], b, acc => rfl
 | u :: a, b, acc => by simp only [List.cons_append, varsL, Qad a b]
theorem Q7a (n : Int) (old : List Int) : (toCanon n old).2 = if placeR n old < 0 then old ++ [n] else old := by
 unfold toCanon
 by_cases h : placeR n old < 0
 ·rw [if_pos h]; rw [Q8s] at h; rw [h]
 ·rw [if_neg h]; rw [Q8s] at h
  cases hp : placeI n old 0 with
  | none => exact absurd hp h
  | some j => rfl
mutual
theorem QfR : ∀ (t : Ty) (old : List Int), allTy goodB t = true → varsL (preTy t) old = (chTy toCanon t old).2
 | .mk k n s l b, old, h => by
   simp only [allTy, Bool.and_eq_true] at h
   have hv : varsL (preTy (.mk k n s l b)) old = varsL (preTys l) (bif decide (k = 1) && decide (placeR n old < 0) then old ++ [n] else old) := rfl
   rw [hv]
   simp only [chTy]
   by_cases hk : k = 1
   ·obtain ⟨h0, rfl, rfl⟩ := Q9P h.1 hk
    simp only [decide_eq_true hk, cond_true, Bool.true_and, preTys, varsL, Q7a]
    by_cases hp : placeR n old < 0
    ·simp [hp]
    ·simp [hp]
   ·simp only [decide_eq_false hk, cond_false, Bool.false_and, Qag l old h.2]
theorem Qag : ∀ (l : List Ty) (old : List Int), allTys goodB l = true → varsL (preTys l) old = (chTys toCanon l old).2
 | [], old, _ => by simp only [preTys, varsL, chTys]
 | t :: l, old, h => by
   simp only [allTys, Bool.and_eq_true] at h
   simp only [preTys, Qad, chTys, QfR t old h.1, Qag l _ h.2]
end
def Ext (a b : List Int) : Prop := ∃ c, b = a ++ c
theorem Ext.refl (a : List Int) : Ext a a := ⟨[], by simp⟩
theorem Ext.trans {a b c : List Int} (h : Ext a b) (g : Ext b c) : Ext a c := by
 obtain ⟨x, rfl⟩ := h; obtain ⟨y, rfl⟩ := g; exact ⟨x ++ y, by simp⟩
theorem Q8r {n : Int} {i j : Nat} : ∀ {a c : List Int}, placeI n a i = some j → placeI n (a ++ c) i = some j := by
 intro a
 induction a generalizing i with
 | nil => intro c h; cases h
 | cons m a ih =>
   intro c h
   simp only [List.cons_append, placeI] at h ⊢
   split at h
   ·rename_i e; rw [if_pos e]; exact h
   ·rename_i e; rw [if_neg e]; exact ih h
theorem Qci (n : Int) (old : List Int) : Ext old (toCanon n old).2 := by
 rw [Q7a]; split
 ·exact ⟨_, rfl⟩
 ·exact .refl _
mutual
theorem Qc0 : ∀ (t : Ty) (old : List Int), Ext old (chTy toCanon t old).2
 | .mk k n s l b, old => by
   simp only [chTy]
   cases decide (k = 1) with
   | true => exact Qci n old
   | false => exact Q3b l old
theorem Q3b : ∀ (l : List Ty) (old : List Int), Ext old (chTys toCanon l old).2
 | [], old => .refl _
 | t :: l, old => by simp only [chTys]; exact (Qc0 t old).trans (Q3b l _)
end
theorem Qds {n : Int} {old fin : List Int} (h : Ext (toCanon n old).2 fin) : (toCanon n old).1 = tvar (placeR n fin) ∧ ∃ j, placeI n fin 0 = some j := by
 obtain ⟨c, rfl⟩ := h
 unfold toCanon placeR
 cases hp : placeI n old 0 with
 | some j =>
   simp only []
   have := Q8r (c := c) hp
   rw [this]; exact ⟨rfl, j, rfl⟩
 | none =>
   simp only []
   have h1 : placeI n (old ++ [n]) 0 = some old.length := by
    rw [show placeI n (old ++ [n]) 0 = _ from placeI_app' n n old 0, hp]; simp
   have := Q8r (c := c) h1
   rw [this]; exact ⟨rfl, _, rfl⟩
where
 placeI_app' (n m : Int) : ∀ (l : List Int) (i : Nat), placeI n (l ++ [m]) i = match placeI n l i with | some j => some j | none => if n = m then some (i + l.length) else none
 | [], i => by simp [placeI]
 | a :: l, i => by
   simp only [List.cons_append, placeI, placeI_app' n m l (i + 1), List.length_cons]
   by_cases h : n = a
   ·simp [h]
   ·simp only [h, if_false]
    rw [show i + 1 + l.length = i + (l.length + 1) by omega]
mutual
theorem QgF : ∀ (t : Ty) (old fin : List Int), Ext (chTy toCanon t old).2 fin → renR fin t = (chTy toCanon t old).1
 | .mk k n s l b, old, fin, h => by
   simp only [chTy] at h ⊢
   simp only [renR]
   cases hk : decide (k = 1) with
   | true => rw [hk] at h; simp only [cond_true] at h ⊢; exact (Qds h).1.symm
   | false => rw [hk] at h; simp only [cond_false] at h ⊢; rw [QbE l old fin h]
theorem QbE : ∀ (l : List Ty) (old fin : List Int), Ext (chTys toCanon l old).2 fin → renRs fin l = (chTys toCanon l old).1
 | [], old, fin, _ => by simp only [renRs, chTys]
 | t :: l, old, fin, h => by
   simp only [chTys] at h ⊢
   simp only [renRs]
   rw [QgF t old fin ((Q3b l _).trans h), QbE l _ fin h]
end
section
variable {σ : Type} (to : Int → σ → Ty × σ) (B : Nat)
mutual
theorem QdT (h : ∀ n st, (to n st).1.size ≤ B) (hB : 1 ≤ B) : ∀ (t : Ty) (st : σ), (chTy to t st).1.size ≤ t.size * B
 | .mk k n s l b, st => by
   simp only [chTy, Ty.size, Nat.add_mul, Nat.one_mul]
   have h1 := h n st
   have h2 := Q7S h hB l st
   cases decide (k = 1) with
   | true => simp only [cond_true]; omega
   | false => simp only [cond_false, Ty.size]; omega
theorem Q7S (h : ∀ n st, (to n st).1.size ≤ B) (hB : 1 ≤ B) : ∀ (l : List Ty) (st : σ), Ty.sizes (chTys to l st).1 ≤ Ty.sizes l * B
 | [], st => by simp only [chTys, Ty.sizes]; omega
 | t :: l, st => by
   have h1 := QdT h hB t st
   have h2 := Q7S h hB l (chTy to t st).2
   simp only [chTys, Ty.sizes, Nat.add_mul]; omega
end
end
end Go.Am
namespace Go.Proofs.Ytoahliipbclneaa
open Go Go.Am
set_option linter.unusedVariables false
structure Place where
 name : Str
 data : Str
 tag : Int
 of_ : Int
 has : Bool
 vars : Int
 ty : Ty
 deriving Inhabited
namespace Place
def cells (p : Place) : List AV := .str p.name :: .str p.data :: .int .i64 p.tag :: .int .i64 p.of_ :: .bool p.has :: .int .i64 p.vars :: p.ty.cells
abbrev enc (p : Place) : AV := .agg p.cells
theorem cells_eq (p : Place) : p.cells = [.str p.name, .str p.data, .int .i64 p.tag, .int .i64 p.of_, .bool p.has, .int .i64 p.vars, .int .i64 p.ty.kind, .int .i64 p.ty.n, .str p.ty.name, encS p.ty.nl (p.ty.args.map Ty.enc)] := by rw [cells, Ty.cells_eq]
theorem cells_len (p : Place) : p.cells.length = 10 := by rw [cells_eq]; rfl
def zero : Place := ⟨[], [], 0, 0, false, 0, .zero⟩
end Place
def sInt : Str := [105, 110, 116]
def sBool : Str := [98, 111, 111, 108]
def sUnit : Str := [117, 110, 105, 116]
def sExn : Str := [101, 120, 110]
def sRef : Str := [114, 101, 102]
def sArrow : Str := [45, 62]
def sStar : Str := [42]
def known0 : Str → Option Int := upd (upd (upd (upd (upd (upd (upd (fun _ => none) sInt (-1)) sBool (-1)) sUnit (-1)) sExn (-1)) sRef (-1)) sArrow (-1)) sStar (-1)
def knownStep (g : Str → Option Int) (p : Place) : Str → Option Int := match g p.data with | none => upd g p.data p.vars | some _ => g
def knownD (t : List Place) : Str → Option Int := t.foldl knownStep known0
mutual
def wrongD (g : Str → Option Int) (params : Int) : Ty → Int × Str
 | .mk k n nm l b => if k = 1 then (if n ≥ params then (16, []) else (0, [])) else match g nm with
   | none => (8, nm)
   | some m => if m ≥ 0 ∧ m ≠ (l.length : Int) then (19, nm) else wrongsD g params l
def wrongsD (g : Str → Option Int) (params : Int) : List Ty → Int × Str
 | [] => (0, [])
 | t :: l => if (wrongD g params t).1 ≠ 0 then wrongD g params t else wrongsD g params l
end
def placeD (nm data : Str) (tag of_ : Int) : Place := ⟨nm, data, tag, of_, false, 0, ofTy data []⟩
def startD : List Place := [placeD [40, 41] sUnit 0 1, placeD [102, 97, 108, 115, 101] sBool 0 2, placeD [116, 114, 117, 101] sBool 1 2, placeD [68, 105, 118] sExn 0 0, placeD [69, 111, 102] sExn 1 0, placeD [77, 97, 116, 99, 104] sExn 2 0]
def findD (nm : Str) : List Place → Option Place
 | [] => none
 | p :: l => if p.name = nm then some p else findD nm l
def foundD (o : Option Place) : AV := match o with | some p => .tup [p.enc, .bool true] | none => .tup [Place.zero.enc, .bool false]
def varsTy (n : Nat) : List Ty := (List.range n).map fun i : Nat => tvar (i : Int)
def headD (d : Dec) : Ty × Int := bif decide (d.kind = 4) then (ofTy sExn [], 0) else (ofTy d.name (varsTy d.params.toNat), d.params)
def conBad (k : Int) (g : Str → Option Int) (vars tag : Int) (met : List Str) (c : Con) : Int × Str :=
 if c.name ∈ met then (9, c.name) else bif decide (k = 4) && decide (tag > 1023) then (19, c.name) else bif c.has then (if (wrongD g vars c.arg).1 ≠ 0 then wrongD g vars c.arg else (0, c.name)) else (0, c.name)
def conPlace (res : Ty) (vars : Int) (data : Str) (tag of_ : Int) (c : Con) : Place := ⟨c.name, data, tag, of_, c.has, vars, bif c.has then fnTy c.arg res else putTy res []⟩
def consD (k : Int) (g : Str → Option Int) (res : Ty) (vars : Int) (data : Str) (of_ : Int) : List Con → List Str → Int → List Place → List Place × TBad
 | [], _, _, out => (out, .zero)
 | c :: l, met, tag, out => if (conBad k g vars tag met c).1 ≠ 0 then ([], ⟨(conBad k g vars tag met c).1, c.at_, (conBad k g vars tag met c).2⟩) else
   consD k g res vars data of_ l (met ++ [c.name]) (tag + 1) (out ++ [conPlace res vars data tag of_ c])
def exns (t : List Place) : Nat := (t.filter fun p => decide (p.data = sExn)).length
def addD (t : List Place) (d : Dec) : List Place × TBad :=
 bif decide (d.kind = 3) then (bif (knownD t d.name).isSome then ([], ⟨9, d.at_, d.name⟩) else consD 3 (upd (knownD t) d.name d.params) (headD d).1 (headD d).2 d.name d.cons.length d.cons (t.map Place.name) 0 t)
 else bif decide (d.kind = 4) then consD 4 (knownD t) (headD d).1 (headD d).2 sExn 0 d.cons (t.map Place.name) (exns t) t
 else (t, .zero)
def ofD : List Dec → List Place → List Place × TBad
 | [], t => (t, .zero)
 | d :: l, t => if (addD t d).2.kind ≠ 0 then ([], (addD t d).2) else ofD l (addD t d).1
end Go.Proofs.Ytoahliipbclneaa
namespace Go.Proofs.Ytoahliipbclneaa
open Go Go.Am
set_option linter.unusedVariables false
set_option maxRecDepth 4000
theorem Zg (nm data : Str) (tag of_ : Int) (s : St) : Ret (cw (.f Za) [.str nm, .str data, .int .i64 tag, .int .i64 of_] s) s (placeD nm data tag of_).enc := by
 obtain ⟨s1, e1, g1⟩ := Q32 data [] .nils rfl (by simp) (by simp) s
 refine ⟨s1, ?_, g1⟩
 rw [Qas]
 simp only [go_sem, Ty.enc, ofTy, List.map_nil, Ty.cells_mk] at e1
 simp only [go_sem, Nat.reduceAdd, Nat.reduceLeDiff, e1, Place.enc, Place.cells, placeD, ofTy, List.map_nil, Ty.cells_mk]
theorem Q1N (s : St) : ∃ s', cw (.f Q0G) [] s = some (.ret (.full (startD.map Place.enc)), s') ∧ Grew s s' := by
 obtain ⟨s1, e1, g1⟩ := Zg [40, 41] sUnit 0 1 s
 obtain ⟨s2, e2, g2⟩ := Zg [102, 97, 108, 115, 101] sBool 0 2 s1
 obtain ⟨s3, e3, g3⟩ := Zg [116, 114, 117, 101] sBool 1 2 s2
 obtain ⟨s4, e4, g4⟩ := Zg [68, 105, 118] sExn 0 0 s3
 obtain ⟨s5, e5, g5⟩ := Zg [69, 111, 102] sExn 1 0 s4
 obtain ⟨s6, e6, g6⟩ := Zg [77, 97, 116, 99, 104] sExn 2 0 s5
 refine ⟨s6, ?_, ((((g1.trans g2).trans g3).trans g4).trans g5).trans g6⟩
 rw [Qap]
 simp only [sUnit, sBool, sExn] at e1 e2 e3 e4 e5 e6
 simp only [go_sem, e1, e2, e3, e4, e5, e6, Place.enc, Place.cells_len, startD, sUnit, sBool, sExn, List.map_cons, List.map_nil]
theorem Q4n (nm : Str) (t : List Place) (hl : t.length < 2^40) (hw : ∀ p ∈ t, WideTy p.ty) (z : List Slot) (hz : z.length = 10) (y : Slot) (hy : y.list? = some (t.map Place.enc)) : ∀ (suf pre : List Place) (s : St) (i : Nat), pre ++ suf = t → i = pre.length →
  Ret (Q0K (.val (.str nm)) z y (.val (.int .i64 t.length)) (.val (.int .i64 i)) s) s (foundD (findD nm suf))
 | [], pre, s, i, h, hi => by
   subst hi
   rw [Q3I]; simp only [go_sem, Nat.reduceAdd, Nat.reduceLeDiff, Qa (by simpa using h), hz]
   exact Ret.same _ _
 | p :: suf, pre, s, i, h, hi => by
   subst hi
   obtain ⟨f1, f2, f3⟩ := Q9 hy h (by omega) (Place.cells_len p) (by decide)
   obtain ⟨s1, e1, g1⟩ := Q0F _ p.ty (Nat.le_refl _) (hw p (by rw [← h]; simp)) s
   have ih := Q4n nm t hl hw z hz y hy suf (pre ++ [p]) s (pre.length + 1) (by simpa using h) (by simp)
   rw [Q3I]
   simp only [Ty.enc, Ty.cells_eq] at e1
   simp only [go_sem, Nat.reduceAdd, Nat.reduceLeDiff, f1, f2, f3, Place.cells_eq] at ih ⊢
   simp only [go_sem, Nat.reduceAdd, Nat.reduceLeDiff, e1, hz, findD]
   by_cases hn : p.name = nm
   ·simp only [go_sem, hn, if_true, foundD, Place.enc, Place.cells_eq]
    exact ⟨s1, rfl, g1⟩
   ·simp only [go_sem, hn]
    exact ih
theorem Q4o (nm : Str) (t : List Place) (hl : t.length < 2^40) (hw : ∀ p ∈ t, WideTy p.ty) (v : AV) (hv : (Slot.val v).list? = some (t.map Place.enc)) (s : St) : Ret (cw (.f Q15) [v, .str nm] s) s (foundD (findD nm t)) := by
 have e1 := Q4n nm t hl hw ([.val (.str []), .val (.str []), .val (.int .i64 0), .val (.int .i64 0), .val (.bool false), .val (.int .i64 0), .val (.int .i64 0), .val (.int .i64 0), .val (.str []), .val .nils]) rfl (.val v) hv t [] s 0 rfl rfl
 rw [show ((0 : Nat) : Int) = 0 from rfl] at e1
 rw [QaX]
 simp only [go_sem, hv, List.length_map] at e1 ⊢
 exact e1
theorem placeAcc {s0 s : St} {x : Slot} {l : List Place} (h : AccR Q5 s0 s x (l.map Place.enc)) (p : Place) (hl : l.length < 2^29) :
  ∃ x' s', appendS Q5 (C.ti Q5) s x (.full [p.enc]) = some (x', s') ∧ AccR Q5 s0 s' x' ((l ++ [p]).map Place.enc) :=
 AccR.appendF (B := [p]) h rfl (fun a => by rw [Q1K]; exact Place.cells_len a) (by rw [Q1K]; decide) (by simp only [List.length_singleton]; omega) (by rw [Q56]; decide)
theorem Q3i (t : List Place) (hl : t.length < 2^28) (hw : ∀ p ∈ t, WideTy p.ty) (y : Slot) (hy : y.list? = some (t.map Place.enc)) (s0 : St) : ∀ (suf pre : List Place) (x : Slot) (s : St) (i : Nat), AccR Q5 s0 s x (pre.map Place.enc) → pre ++ suf = t → i = pre.length →
  RetA (Q07 x y (.val (.int .i64 t.length)) (.val (.int .i64 i)) s) Q5 s0 (t.map Place.enc)
 | [], pre, x, s, i, ha, h, hi => by
   subst hi
   rw [Q2J]; simp only [go_sem, Qa (by simpa using h)]
   have : pre = t := by simpa using h
   subst this
   exact ⟨x, s, rfl, ha⟩
 | p :: suf, pre, x, s, i, ha, h, hi => by
   subst hi
   obtain ⟨f1, f2, f3⟩ := Q9 hy h (by omega) (Place.cells_len p) (by decide)
   obtain ⟨s1, e1, g1⟩ := Q0F _ p.ty (Nat.le_refl _) (hw p (by rw [← h]; simp)) s
   have hlen : pre.length < t.length := by rw [← h]; simp
   obtain ⟨x2, s2, e2, a2⟩ := placeAcc (ha.move g1) p (by omega)
   have ih := Q3i t hl hw y hy s0 suf (pre ++ [p]) x2 s2 (pre.length + 1) a2 (by simpa using h) (by simp)
   rw [Q2J]
   simp only [Ty.enc, Ty.cells_eq] at e1
   simp only [Place.enc, Place.cells_eq] at e2
   simp only [go_sem, Nat.reduceAdd, Nat.reduceLeDiff, f1, f2, f3, Place.cells_eq] at ih ⊢
   simp only [go_sem, Nat.reduceAdd, Nat.reduceLeDiff, e1, e2]
   exact ih
theorem Q7r (t : List Place) (hl : t.length < 2^28) (hw : ∀ p ∈ t, WideTy p.ty) (v : AV) (hv : (Slot.val v).list? = some (t.map Place.enc)) (s : St) : RetA (cw (.f Q1l) [v] s) Q5 s (t.map Place.enc) := by
 obtain ⟨x, s1, e1, a1⟩ := Qfq Q5 (C.ti Q5) s (t.length : Int) (by omega) (by omega) (by rw [Q56]; decide) (by rw [Q1K]; decide) Place.zero.enc (by rw [QaQ]; exact Q2m Q6D (by rw [Q1K]; rfl))
 have e2 := Q3i t hl hw (.val v) hv s t [] x s1 0 a1 rfl rfl
 rw [show ((0 : Nat) : Int) = 0 from rfl] at e2
 rw [Q9a]
 simp only [go_sem, hv, List.length_map, e1] at e2 ⊢
 exact e2
end Go.Proofs.Ytoahliipbclneaa
namespace Go.Proofs.Ytoahliipbclneaa
open Go Go.Am
set_option linter.unusedVariables false
set_option maxRecDepth 4000
def MapSI (s : St) (loc : Nat) (g : Str → Option Int) : Prop := ∃ es c D, s.locs[loc]? = some (.map es c) ∧ MapIs (fun k : Str => AV.str k) (fun n : Int => AV.int .i64 n) g es c D
theorem MapSI.new (s : St) : MapSI (s.addLoc (.map [] 0)) s.locs.length (fun _ => none) := ⟨[], 0, [], Q3F _ _, .nil⟩
theorem MapSI.lt {s : St} {loc : Nat} {g : Str → Option Int} (h : MapSI s loc g) : loc < s.locs.length := by
 obtain ⟨es, c, D, h1, -⟩ := h
 exact (List.getElem?_eq_some_iff.1 h1).1
theorem MapSI.move {s s' : St} {loc : Nat} {g : Str → Option Int} (h : MapSI s loc g) (k : Grew s s') : MapSI s' loc g := by
 obtain ⟨es, c, D, h1, h2⟩ := h
 exact ⟨es, c, D, k.loc h1, h2⟩
theorem MapSI.moves {A h1 h2 : List Nat} {s s' : St} {loc : Nat} {g : Str → Option Int} (h : MapSI s loc g) (m : Moves A h1 h2 s s') (hn : loc ∉ A) : MapSI s' loc g := by
 obtain ⟨es, c, D, e1, e2⟩ := h
 exact ⟨es, c, D, m.loc e1 hn, e2⟩
theorem QaS : (C.ti Q1).zeroV = some (.int .i64 0) := QeP QcV QdJ QcW
theorem MapSI.get {s : St} {loc : Nat} {g : Str → Option Int} (h : MapSI s loc g) (k : Str) : lookupS (C.ti Q2) (C.ti Q1) s (.val (.mp loc)) (.val (.str k)) false = some (.val (.int .i64 ((g k).getD 0))) := by
 obtain ⟨es, c, D, h1, h2⟩ := h
 have := Q6T h2 keyStr k (kt := C.ti Q2) (et := C.ti Q1) (Q5O QD k) h1 QaS false
 rw [this]
 cases g k <;> rfl
theorem MapSI.get2 {s : St} {loc : Nat} {g : Str → Option Int} (h : MapSI s loc g) (k : Str) : lookupS (C.ti Q2) (C.ti Q1) s (.val (.mp loc)) (.val (.str k)) true = some (.val (.tup [.int .i64 ((g k).getD 0), .bool (g k).isSome])) := by
 obtain ⟨es, c, D, h1, h2⟩ := h
 have := Q6T h2 keyStr k (kt := C.ti Q2) (et := C.ti Q1) (Q5O QD k) h1 QaS true
 rw [this]
 cases g k <;> rfl
theorem MapSI.set {s : St} {loc : Nat} {g : Str → Option Int} (h : MapSI s loc g) (k : Str) (v : Int) :
  ∃ s', updateS (C.ti Q2) (C.ti Q1) s (.val (.mp loc)) (.val (.str k)) (.val (.int .i64 v)) = some (.no, s') ∧ MapSI s' loc (upd g k v) ∧ (∀ hs, Moves [loc] hs hs s s') ∧ s'.toks = s.toks ∧ s'.locs.length = s.locs.length := by
 obtain ⟨es, c, D, h1, h2⟩ := h
 obtain ⟨es', c', D', e1, e2⟩ := Qcm h2 keyStr (kt := C.ti Q2) (et := C.ti Q1) k (Q5O QD k) h1 (x := .val (.int .i64 v)) (v := v) rfl (by rw [Q4E]; rfl)
 exact ⟨_, e1, ⟨es', c', D', Qi9 h1, e2⟩, fun hs => (Moves.refl [loc] hs s).setLoc (.inl (by simp)) _, rfl, by simp⟩
end Go.Proofs.Ytoahliipbclneaa