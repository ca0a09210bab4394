/- A part of the proof: STree6, STree7, STy1, STy2, SShow1, PShow. -/
import Derived.Test.YtobelgghegmhhaaGreatDoorM3
import Derived.Test.YtobelgghegmhhaaGreatDoorM8
import Derived.Test.YtobelgghegmhhaaGreatDoorM9
import Derived.Lib.ItoaNum
set_option linter.unusedVariables false
set_option linter.unusedSimpArgs false
namespace Go.Am
open Go
abbrev TkB := List Nat × List (Nat × TypeId)
def St.tb (s : St) : TkB := (s.toks, s.bl)
def lay0 (L : List Obj) (cs : List Slot) (g : List Obj) (T : TkB) : St := ⟨L ++ (.var cs :: g), T.1, T.2⟩
def lay (L : List Obj) (cs : List Slot) (g : List Obj) (o : Obj) (a : List Obj) (T : TkB) : St := ⟨L ++ (.var cs :: (g ++ (o :: a))), T.1, T.2⟩
def reL (st : LSt) (p : Option AExit) : Obj → Obj
 | .loop _ _ f e ps a b => .loop st p f e ps a b
 | o => o
def isReady : Obj → Bool
 | .loop .ready none _ _ _ _ _ => true
 | _ => false
theorem Q3X {o : Obj} (h : isReady o = true) : ∃ f e ps a b, o = .loop .ready none f e ps a b := by
 cases o with
 | loop st p f e ps a b => cases st <;> cases p <;> first | exact ⟨f, e, ps, a, b, rfl⟩ | cases h
 | _ => cases h
section
variable (L : List Obj) (cs cs' : List Slot) (g a : List Obj) (o : Obj) (T : TkB) (t : TI) (p : Option AExit) (st : LSt)
@[go_sem] theorem Qj1 : ldV t false (lay0 L cs g T) (.val (.vp L.length 0)) = ofSlots t (cs.take t.size) := by
  simp [ldV, lay0]
@[go_sem] theorem Qtn : ldV t false (lay L cs g o a T) (.val (.vp L.length 0)) = ofSlots t (cs.take t.size) := Qj1 ..
variable {cs cs'} in
@[go_sem] theorem Qen (h : cs'.length = cs.length) : stV (lay0 L cs g T) (.val (.vp L.length 0)) cs' = some (lay0 L cs' g T) := by
  simp [stV, lay0, putAt, h]
variable {cs cs'} in
@[go_sem] theorem Qba (h : cs'.length = cs.length) : stV (lay L cs g o a T) (.val (.vp L.length 0)) cs' = some (lay L cs' g o a T) := Qen _ _ _ h
theorem Q75 : (lay L cs g o a T).locs[L.length + 1 + g.length]? = some o := by
 simp only [lay]
 rw [List.getElem?_append_right (by omega), show L.length + 1 + g.length - L.length = g.length + 1 by omega, List.getElem?_cons_succ, List.getElem?_append_right (by omega)]
 simp
theorem QfI (o' : Obj) : (lay L cs g o a T).locs.set (L.length + 1 + g.length) o' = L ++ (.var cs :: (g ++ (o' :: a))) := by
 simp only [lay]
 rw [List.set_append_right _ _ (by omega), show L.length + 1 + g.length - L.length = g.length + 1 by omega, List.set_cons_succ, List.set_append_right _ _ (by omega)]
 simp
variable {o} in
@[go_sem] theorem Q9q (h : isReady o = true) : beginL (L.length + 1 + g.length) (lay L cs g o a T) = some (lay L cs g (reL .busy none o) a T) := by
  obtain ⟨f, e, ps, x, y, rfl⟩ := Q3X h
  unfold beginL
  rw [Q75]
  simp only [QfI]; rfl
variable {o} in
theorem Q5c (h : isReady o = true) (q : LSt) (r : Option AExit) : setLoop (L.length + 1 + g.length) q r (lay L cs g (reL st p o) a T) = some (lay L cs g (reL q r o) a T) := by
 obtain ⟨f, e, ps, x, y, rfl⟩ := Q3X h
 unfold setLoop
 rw [Q75]
 simp only [reL, QfI]; rfl
variable {o} in
theorem Q3h (h : isReady o = true) : reL .ready none o = o := by
 obtain ⟨f, e, ps, x, y, rfl⟩ := Q3X h
 rfl
variable {o} in
theorem Qdk (h : isReady o = true) (hs : st ≠ .busy) (kn kr : St → Res) (ke : Nat → St → Res) : endX (L.length + 1 + g.length) (lay L cs g (reL st p o) a T) kn kr ke = pendX p kn kr ke (lay L cs g (reL .exhausted p o) a T) := by
 have e1 := Q5c L cs g a T p st h .exhausted p
 obtain ⟨f, e, ps, x, y, rfl⟩ := Q3X h
 simp only [reL] at e1 ⊢
 unfold endX
 rw [Q75]
 cases st <;> first | (exact absurd rfl hs) | (simp only [e1]; rfl)
theorem QfH : (lay0 L cs g T).locs.length = L.length + 1 + g.length := by simp [lay0]; omega
theorem QfG : (lay0 L cs g T).addLoc o = lay L cs g o [] T := by simp [lay0, lay, St.addLoc]
end
theorem addVar (s : St) (cs : List Slot) : s.addLoc (.var cs) = lay0 s.locs cs [] s.tb := rfl
theorem Grew.lay0 {s : St} (cs : List Slot) (g : List Obj) {T : TkB} (h : ∃ b, T.1 = s.toks ++ b) : Grew s (lay0 s.locs cs g T) := ⟨⟨_, rfl⟩, h⟩
theorem Grew.lay {s : St} (cs : List Slot) (g : List Obj) (o : Obj) (a : List Obj) {T : TkB} (h : ∃ b, T.1 = s.toks ++ b) : Grew s (lay s.locs cs g o a T) := ⟨⟨_, rfl⟩, h⟩
theorem Grew.layE {s : St} (cs : List Slot) (g : List Obj) (o : Obj) (a : List Obj) : Grew s (Am.lay s.locs cs g o a s.tb) := ⟨⟨_, rfl⟩, ⟨[], by simp [Am.lay, St.tb]⟩⟩
theorem Grew.of_lay0 {L : List Obj} {cs : List Slot} {T : TkB} {s : St} (h : Grew (Am.lay0 L cs [] T) s) : ∃ (g : List Obj) (T' : TkB), s = Am.lay0 L cs g T' ∧ ∃ b, T'.1 = T.1 ++ b := by
 obtain ⟨⟨a, ha⟩, b, hb⟩ := h
 refine ⟨a, s.tb, ?_, b, hb⟩
 obtain ⟨l, t, u⟩ := s
 simp only [Am.lay0, St.tb] at ha ⊢
 rw [ha]; simp
end Go.Am
namespace Go.Proofs.YtobelgghegmhhaaGreatDoor
open Go Go.Am
set_option linter.unusedVariables false
set_option maxRecDepth 4000
def cstep (most : Int) (n : TNode) (k : Int) : Int × Bool := (bif n.isNode then IntKind.i64.wrap (k + 1) else k, !decide ((bif n.isNode then IntKind.i64.wrap (k + 1) else k) ≥ most))
theorem Q6g (most : Int) : ∀ (l : List TNode) (n : Nat), (n : Int) < most → n + l.length < 2^62 → walk (cstep most) l n = (if ((n + countN l : Nat) : Int) < most then (((n + countN l : Nat) : Int), true) else (most, false))
 | [], n, h, _ => by simp [walk, countN, h]
 | u :: l, n, h, hb => by
   simp only [List.length_cons] at hb
   have hw : IntKind.i64.wrap ((n : Int) + 1) = ((n + 1 : Nat) : Int) := by rw [wrap64 (by omega) (by omega)]; rfl
   simp only [walk, cstep]
   cases hu : u.isNode
   ·have e : countN (u :: l) = countN l := by simp [countN, hu]
    have e2 : (!decide ((n : Int) ≥ most)) = true := by simpa using h
    simp only [cond_false, e2, cond_true, e]
    exact Q6g most l n h (by omega)
   ·have e : countN (u :: l) = countN l + 1 := by simp [countN, hu]
    simp only [cond_true, hw, e]
    by_cases h2 : ((n + 1 : Nat) : Int) < most
    ·have e2 : (!decide (((n + 1 : Nat) : Int) ≥ most)) = true := by simpa using h2
     rw [e2, cond_true, Q6g most l (n + 1) h2 (by omega), show n + 1 + countN l = n + (countN l + 1) by omega]
    ·have e2 : (!decide (((n + 1 : Nat) : Int) ≥ most)) = false := by simpa using h2
     rw [e2, cond_false, if_neg (by omega)]
     congr 1; omega
def rstep (n : TNode) (b : TBad) : TBad × Bool := bif decide (n.bad.kind = 0) then (b, true) else (n.bad, false)
theorem Qav : ∀ (l : List TNode) (b : TBad), walk rstep l b = bif l.all (fun n => decide (n.bad.kind = 0)) then (b, true) else (firstBad l, false)
 | [], b => rfl
 | u :: l, b => by
   simp only [walk, rstep, List.all_cons, firstBad]
   cases hu : decide (u.bad.kind = 0)
   ·rfl
   ·simp only [cond_true, Bool.true_and]
    exact Qav l b
theorem Q6k : ∀ l : List TNode, l.all (fun n => decide (n.bad.kind = 0)) = true → firstBad l = .zero
 | [], _ => rfl
 | u :: l, h => by
   rw [List.all_cons, Bool.and_eq_true] at h
   rw [firstBad, h.1, cond_true]
   exact Q6k l h.2
theorem Qc6 (nd : TNode) (r : List AV) : boxCells (C.ti QY) (.val (nd.thing r)) = some ((nd.thing r).cells.map .val) := by cases nd <;> simp only [go_sem, Nat.reduceAdd, TNode.thing]
theorem Qc7 (nd : TNode) (r : List AV) (a b c d e f g h : Slot) : putAt [a, b, c, d, e, f, g, h] 0 ((nd.thing r).cells.map .val) = some ((nd.thing r).cells.map .val) := by cases nd <;> rfl
theorem Qaf (nd : TNode) (r : List AV) : aggO (C.ti QY) (avs (List.take 8 ((nd.thing r).cells.map .val))) = some (.val (nd.thing r)) := by cases nd <;> kernel_rfl
structure SeqOK (h : AV) (nodes : List TNode) : Prop where
 ok : ∃ g l, h = .fn g l ∧ (C.ext g).isSome = false ∧ ∀ (σ : Type) (step : TNode → σ → σ × Bool) (R : σ × Bool → St → Prop) (P : TNode → Prop) (loc : Nat), YOK step R P loc → (∀ n ∈ nodes, P n) → ∀ st s, R (st, true) s →
  ∃ v s', cw (.f g) (.yld loc :: l) s = some (.ret v, s') ∧ R (walk step nodes st) s'
theorem SeqOK.range {h : AV} {nodes : List TNode} (H : SeqOK h nodes) {σ : Type} {step : TNode → σ → σ × Bool} {R : σ × Bool → St → Prop} {P : TNode → Prop} {loc : Nat} (hY : YOK step R P loc) (hP : ∀ n ∈ nodes, P n) {st : σ} {s : St} (hR : R (st, true) s) (k : St → Res) :
  ∃ s', rangeC C cw (.val h) loc s k = k s' ∧ R (walk step nodes st) s' := by
 obtain ⟨g, l, rfl, he, H⟩ := H.ok
 obtain ⟨v, s', e, g'⟩ := H σ step R P loc hY hP st s hR
 refine ⟨s', ?_, g'⟩
 unfold rangeC
 have : tgtV (.val (.fn g l)) [] = some (.f g, l) := rfl
 rw [this]
 simp only [he, cond_false, e]
 rfl
theorem Q7W (t : Pat) (s : St) (h : t.size < 2^40) : ∃ q, cw (.f Q2T) [t.enc] s = some (.ret (.val q), s) ∧ SeqOK q (nodesPat t) := by
 refine ⟨.fn Q28 [.cp t.cells], ?_, ⟨_, _, rfl, by kernel_rfl, fun σ step R P loc hY hP st s hR => ?_⟩⟩
 ·rw [Qak]; simp only [go_sem]
 ·obtain ⟨s', e, g⟩ := Q4z hY t.size t [] (Nat.le_refl _) h hP st s hR
  rw [List.append_nil] at e
  rw [Q7V]; simp only [go_sem, Nat.reduceAdd, Nat.reduceLeDiff, e]
  exact ⟨_, s', rfl, g⟩
theorem Qai {h : AV} {nodes : List TNode} (H : SeqOK h nodes) (most : Nat) (hm : 0 < most) (hl : nodes.length < 2^61) (s : St) : Ret (cw (.f Q2v) [h, .int .i64 most] s) s (.int .i64 (min (countN nodes) most : Nat)) := by
 let o := Q3A (.val (.cp [.int .i64 most])) (.val (.vp s.locs.length 0))
 have ho : isReady o = true := rfl
 let R : Int × Bool → St → Prop := fun p s1 => s1 = lay s.locs [.val (.int .i64 p.1)] [] (bif p.2 then o else reL .done (some (.exit 0)) o) [] s.tb
 have hY : YOK (cstep most) R (fun _ => True) (s.locs.length + 1) := by
  rintro nd r st s1 - rfl
  simp only [cond_true]
  have b0 := Q75 s.locs [.val (.int .i64 st)] [] [] o s.tb
  rw [List.length_nil, Nat.add_zero] at b0
  rw [cw, Qbk b0]
  rw [Q99]
  have b1 := Q9q s.locs [.val (.int .i64 st)] [] [] s.tb ho
  have b2 : ∀ n st p q r, setLoop (s.locs.length + 1) q r (lay s.locs [.val (.int .i64 n)] [] (reL st p o) [] s.tb) = _ := fun n st p q r => Q5c s.locs [.val (.int .i64 n)] [] [] s.tb p st ho q r
  simp only [List.length_nil, Nat.add_zero] at b1
  simp only [go_sem, Nat.reduceAdd, Nat.reduceLeDiff, Qc6, Qc7, Qaf, b1]
  simp only [go_sem, Nat.reduceAdd, Nat.reduceLeDiff, Z5 (show (Slot.val (nd.thing r)).av = some (nd.thing r) from rfl), Q6e]
  have b3 : ∀ n st p v', stV (lay s.locs [.val (.int .i64 n)] [] (reL st p o) [] s.tb) (.val (.vp s.locs.length 0)) [.val v'] = _ := fun n st p v' => Qba s.locs [] [] (reL st p o) s.tb rfl
  cases hn : nd.isNode
  ·simp only [go_sem, b2, cstep, hn]
   cases hd : decide (st ≥ (most : Int))
   ·simp only [go_sem]; exact ⟨_, rfl, by simp only [R, Bool.not_false, cond_true, Q3h ho]⟩
   ·simp only [go_sem]; exact ⟨_, rfl, by simp only [R, Bool.not_true, cond_false]⟩
  ·simp only [go_sem, b2, b3, cstep, hn]
   cases hd : decide (IntKind.i64.wrap (st + 1) ≥ (most : Int))
   ·simp only [go_sem]; exact ⟨_, rfl, by simp only [R, Bool.not_false, cond_true, Q3h ho]⟩
   ·simp only [go_sem]; exact ⟨_, rfl, by simp only [R, Bool.not_true, cond_false]⟩
 rw [QcK]
 simp only [go_sem, Nat.reduceAdd, addVar, QfH, QfG]
 obtain ⟨s', e, g⟩ := H.range hY (fun _ _ => trivial) (st := 0) (s := lay s.locs [.val (.int .i64 0)] [] o [] s.tb) rfl (fun s_10 => endX (s.locs.length + 1) s_10 (fun s_11 => bind1 (ldV (C.ti Q1) false s_11 (.val (.vp s.locs.length 0))) fun v16 => some (.ret v16, s_11)) (fun s_12 => some (.ret (.val (.int .i64 0)), s_12)) (fun j s_13 => bif Nat.beq j 0 then (bind1 (ldV (C.ti Q1) false s_13 (.val (.vp s.locs.length 0))) fun v16_1 => some (.ret v16_1, s_13)) else none))
 refine (congrArg (fun r => Ret r s (.int .i64 (min (countN nodes) most : Nat))) (Eq.trans rfl e)).mpr ?_
 have := Q6g most nodes 0 (by omega) (by omega)
 rw [Nat.zero_add] at this
 rw [show ((0 : Nat) : Int) = 0 from rfl] at this
 rw [this] at g
 have b2 : ∀ n st p, st ≠ .busy → ∀ kn kr ke, endX (s.locs.length + 1) (lay s.locs [.val (.int .i64 n)] [] (reL st p o) [] s.tb) kn kr ke = _ := fun n st p hs kn kr ke => Qdk s.locs [.val (.int .i64 n)] [] [] s.tb p st ho hs kn kr ke
 subst g
 by_cases hc : (countN nodes : Int) < most
 ·rw [if_pos hc]
  simp only [cond_true]
  rw [← Q3h ho, b2 _ _ _ (by intro h; cases h), show min (countN nodes) most = countN nodes by omega]
  simp only [go_sem, Nat.reduceAdd, Nat.reduceLeDiff, pendX]
  exact Ret.mk (.layE _ _ _ _)
 ·rw [if_neg hc]
  simp only [cond_false]
  rw [b2 _ _ _ (by intro h; cases h), show min (countN nodes) most = most by omega]
  simp only [go_sem, Nat.reduceAdd, Nat.reduceLeDiff, pendX, Nat.beq]
  exact Ret.mk (.layE _ _ _ _)
def NumOK (d : AV) (n : Int) : Prop := ∃ g l, d = .fn g l ∧ ∀ s, cw (.f g) l s = some (.ret (.val (.int .i64 n)), s)
theorem Qiy (b : TBad) : aggO (C.ti Qb) (avs (List.take 3 (b.cells.map .val))) = some (.val b.enc) := by kernel_rfl
theorem Qal {h d : AV} {nodes : List TNode} {n : Int} (H : SeqOK h nodes) (HD : NumOK d n) (hl : nodes.length < 2^61) (hn : ∀ nd ∈ nodes, nd.name.length < 2^40) (s : St) : Ret (cw (.f Q2y) [h, d] s) s (rightN nodes n).enc := by
 rw [QcN]
 obtain ⟨s1, e1, g1⟩ := Qai H 8193 (by decide) hl (s.addLoc (.var (TBad.zero.cells.map .val)))
 obtain ⟨gf, gl, rfl, hd⟩ := HD
 rw [addVar] at e1 g1
 obtain ⟨g, T, rfl, hT⟩ := g1.of_lay0
 have e0 : s.addLoc (.var (List.map .val (C.ti Qb).zero)) = lay0 s.locs (TBad.zero.cells.map .val) [] s.tb := rfl
 rw [e0]
 rw [show ((8193 : Nat) : Int) = 8193 from rfl] at e1
 have k1 : ∀ v : List AV, v.length = 3 → ∀ r, Ret (some (.ret (.val r), lay0 s.locs (v.map .val) g T)) s r := fun v _ r => Ret.mk (.lay0 _ _ hT)
 have k2 : ∀ (v : List AV) o a r, Ret (some (.ret (.val r), lay s.locs (v.map .val) g o a T)) s r := fun v o a r => Ret.mk (.lay _ _ _ _ hT)
 have hst0 : ∀ x y z : AV, stV (lay0 s.locs (TBad.zero.cells.map .val) g T) (.val (.vp s.locs.length 0)) [.val x, .val y, .val z] = some (lay0 s.locs ([x, y, z].map .val) g T) := fun x y z => Qen _ _ _ rfl
 have hst : ∀ (c : TBad) o x y z, stV (lay s.locs (c.cells.map .val) g o [] T) (.val (.vp s.locs.length 0)) [.val x, .val y, .val z] = some (lay s.locs ([x, y, z].map .val) g o [] T) := fun c o x y z => Qba _ _ _ _ _ rfl
 have hb : ∀ x y z : AV, aggO (C.ti Qb) (avs (List.take 3 ([x, y, z].map .val))) = some (.val (.agg [x, y, z])) := fun x y z => by kernel_rfl
 simp only [go_sem, Nat.reduceAdd, Nat.reduceLeDiff, e1, Z5 (show (Slot.val h).av = some h from rfl), hd, hst0, hb]
 have hc : decide (((min (countN nodes) 8193 : Nat) : Int) > 8192) = decide (countN nodes > 8192) := by simp only [gt_iff_lt]; congr 1; rw [eq_iff_iff]; omega
 rw [hc]
 unfold rightN
 cases decide (countN nodes > 8192) with
 | true => simp only [go_sem]; exact k1 [_, _, _] rfl _
 | false =>
   cases decide (n > 100) with
   | true => simp only [go_sem]; exact k1 [_, _, _] rfl _
   | false =>
     simp only [go_sem, QfH, QfG]
     let o := Q3B (.val (.vp s.locs.length 0))
     have ho : isReady o = true := rfl
     let R : TBad × Bool → St → Prop := fun p s1 => s1 = lay s.locs (p.1.cells.map .val) g (bif p.2 then o else reL .done (some .ret) o) [] T
     have hY : YOK rstep R (fun nd => nd.name.length < 2^40) (s.locs.length + 1 + g.length) := by
      rintro nd r st s1 hP rfl
      simp only [cond_true]
      rw [cw, Qbk (Q75 _ _ _ _ _ _), Q9a]
      have b1 := Q9q s.locs (st.cells.map .val) g [] T ho
      have b2 : ∀ (c : List AV) st p q r, setLoop (s.locs.length + 1 + g.length) q r (lay s.locs (c.map .val) g (reL st p o) [] T) = _ := fun c st p q r => Q5c s.locs (c.map .val) g [] T p st ho q r
      simp only [go_sem, Nat.reduceAdd, Nat.reduceLeDiff, Qc6, Qc7, Qaf, b1]
      simp only [go_sem, Z5 (show (Slot.val (nd.thing r)).av = some (nd.thing r) from rfl), Q5K _ _ _ hP]
      unfold rstep
      generalize nd.bad = bd
      obtain ⟨k, a, nm⟩ := bd
      obtain ⟨k0, a0, nm0⟩ := st
      have b3 : ∀ p x y z x' y' z', stV (lay s.locs [.val x', .val y', .val z'] g (reL .busy p o) [] T) (.val (.vp s.locs.length 0)) [.val x, .val y, .val z] = some (lay s.locs ([x, y, z].map .val) g (reL .busy p o) [] T) := fun p x y z x' y' z' => Qba _ _ _ _ _ rfl
      have b4 := b2 [.int .i64 k0, .int .i64 a0, .str nm0]
      have b5 := b2 [.int .i64 k, .int .i64 a, .str nm]
      simp only [List.map] at b3 b4 b5
      simp only [go_sem, Nat.reduceAdd, Nat.reduceLeDiff, TBad.enc, TBad.cells, b3, b4, b5]
      cases hk : decide (k = 0)
      ·simp only [go_sem]; exact ⟨_, rfl, by simp only [R, cond_false]; rfl⟩
      ·simp only [go_sem]; exact ⟨_, rfl, by simp only [R, cond_true, Q3h ho]; rfl⟩
     obtain ⟨s', e, gR⟩ := H.range hY hn (st := TBad.zero) (s := lay s.locs (TBad.zero.cells.map .val) g o [] T) rfl (fun s_11 => endX (s.locs.length + 1 + g.length) s_11 (fun s_12 => bindS (stV s_12 (.val (.vp s.locs.length 0)) [.val (.int .i64 0), .val (.int .i64 0), .val (.str [])]) fun s_15 => bind1 (ldV (C.ti Qb) false s_15 (.val (.vp s.locs.length 0))) fun v => some (.ret v, s_15)) (fun s_13 => bind1 (ldV (C.ti Qb) false s_13 (.val (.vp s.locs.length 0))) fun v => some (.ret v, s_13)) (fun j s_14 => bif Nat.beq j 0 then ( bindS (stV s_14 (.val (.vp s.locs.length 0)) [.val (.int .i64 0), .val (.int .i64 0), .val (.str [])]) fun s_16 => bind1 (ldV (C.ti Qb) false s_16 (.val (.vp s.locs.length 0))) fun v => some (.ret v, s_16)) else ( (none : Res))))
     refine (congrArg (fun r => Ret r s (firstBad nodes).enc) e).mpr ?_
     have b2 : ∀ (c : List AV) st p, st ≠ .busy → ∀ kn kr ke, endX (s.locs.length + 1 + g.length) (lay s.locs (c.map .val) g (reL st p o) [] T) kn kr ke = _ := fun c st p hs kn kr ke => Qdk s.locs (c.map .val) g [] T p st ho hs kn kr ke
     rw [Qav] at gR
     simp only [R] at gR
     subst gR
     cases ha : nodes.all fun nd => decide (nd.bad.kind = 0)
     ·simp only [cond_false]
      rw [b2 _ _ _ (by intro h; cases h)]
      simp only [go_sem, pendX, Qiy]
      exact k2 _ _ _ _
     ·simp only [cond_true]
      rw [← Q3h ho, b2 _ _ _ (by intro h; cases h), Q6k _ ha]
      simp only [go_sem, Nat.reduceAdd, Nat.reduceLeDiff, pendX, hst, hb]
      exact k2 [_, _, _] _ _ _
end Go.Proofs.YtobelgghegmhhaaGreatDoor
namespace Go.Am
open Go
def varOf (p : Pat) : List Str := bif decide (p.kind = 2) || decide (p.kind = 6) then [p.name] else []
mutual
def varsPat : Pat → List Str
 | .mk k a s n l b => varOf (.mk k a s n l b) ++ varsPats l
def varsPats : List Pat → List Str
 | [] => []
 | t :: l => varsPat t ++ varsPats l
end
theorem Qij (p : Pat) : (varOf p).length ≤ 1 := by unfold varOf; cases decide (p.kind = 2) <;> cases decide (p.kind = 6) <;> simp
mutual
theorem Qfo : ∀ t : Pat, (varsPat t).length ≤ t.size
 | .mk k a s n l b => by have h1 := Qij (.mk k a s n l b); have h2 := Q7F l; simp only [varsPat, Pat.size, List.length_append]; omega
theorem Q7F : ∀ l : List Pat, (varsPats l).length ≤ Pat.sizes l
 | [] => Nat.le_refl _
 | t :: l => by have h1 := Qfo t; have h2 := Q7F l; simp only [varsPats, Pat.sizes, List.length_append]; omega
end
theorem TNode.ok_name {n : TNode} (h : n.ok) : n.name.length < 2^40 := by
 cases n <;> first | exact h | exact h.1
@[go_sem] theorem Qtd (f : FuncId) (v : AV) : fnS f [.val v] = some (.val (.fn f [v])) := id rfl
end Go.Am
namespace Go.Proofs.YtobelgghegmhhaaGreatDoor
open Go Go.Am
set_option linter.unusedVariables false
set_option maxRecDepth 4000
section
variable (R : Nat → List Str → St → Prop) (loc : Nat)
variable {R} {loc}
end
theorem Q7p (t : Pat) (s : St) (h : t.size < 2^26) (H : ∀ n ∈ nodesPat t, n.ok) : Ret (cw (.f Q2u) [t.enc] s) s (rightN (nodesPat t) (deepPat t)).enc := by
 obtain ⟨q, e1, hq⟩ := Q7W t s (by omega)
 have hlen := Q4k t
 have hd : NumOK (.fn Q1I [.cp t.cells]) (deepPat t) := ⟨_, _, rfl, fun s => by
  rw [Q7o]; simp only [go_sem, Nat.reduceLeDiff, Q3N _ t s (Nat.le_refl _) (by omega)]⟩
 obtain ⟨s', e2, g2⟩ := Qal hq hd (by omega) (fun nd hn => TNode.ok_name (H nd hn)) s
 revert e2
 generalize rightN _ _ = b
 intro e2
 obtain ⟨k, a, nm⟩ := b
 rw [Q98]; simp only [go_sem, Nat.reduceAdd, Nat.reduceLeDiff, e1, Z5 (show (Slot.val q).av = some q from rfl), e2, TBad.enc, TBad.cells]
 exact Ret.mk g2
end Go.Proofs.YtobelgghegmhhaaGreatDoor
namespace Go.Proofs.YtobelgghegmhhaaGreatDoor
open Go Go.Am
set_option linter.unusedVariables false
set_option maxRecDepth 4000
theorem QcT (nm : Str) (s : St) : cw (.f Q3Q) [.str nm] s = some (.ret (.val (.tup [.int .i64 (givenB nm).1, .int .i64 (givenB nm).2.1, .bool (givenB nm).2.2])), s) := by
 rw [Qfl]
 simp only [go_sem, Qbb]
 delta givenB
 generalize decide (nm = [105, 110, 116]) = x1
 generalize decide (nm = [98, 111, 111, 108]) = x2
 generalize decide (nm = [117, 110, 105, 116]) = x3
 generalize decide (nm = [101, 120, 110]) = x4
 generalize decide (nm = [114, 101, 102]) = x5
 generalize decide (nm = [45, 62]) = x6
 generalize decide (nm = [42]) = x7
 cases x1 <;> cases x2 <;> cases x3 <;> cases x4 <;> cases x5 <;> cases x6 <;> cases x7 <;> rfl
theorem Qgw (nm : Str) : decide ((rightN (nodesPat (.mk 2 0 nm 0 [] true)) (deepPat (.mk 2 0 nm 0 [] true))).kind = 0) = lowB nm := by
 have h1 : countN (nodesPat (.mk 2 0 nm 0 [] true)) = 1 := by rfl
 have h2 : deepPat (.mk 2 0 nm 0 [] true) = 1 := by rfl
 simp only [rightN, h1, h2]
 simp only [nodesPat, nodesPats, firstBad]
 have h3 : (TNode.pat (.mk 2 0 nm 0 [] true)).bad = mkBad (bif lowB nm then 0 else 8) 0 nm := by
  simp only [TNode.bad, TNode.wrong, TNode.at_, wrongPatB, Pat.kind, Pat.name, Pat.n, Pat.kids, Pat.at_, patLM]
  cases lowB nm <;> rfl
 rw [h3]
 cases lowB nm <;> rfl
theorem Qfm (nm : Str) (s : St) (hl : nm.length < 2^40) : Ret (cw (.f Q8E) [.str nm] s) s (.bool (lowB nm)) := by
 obtain ⟨s1, e1, g1⟩ := Q7p (.mk 2 0 nm 0 [] true) s (by simp only [Pat.size, Pat.sizes]; decide) (by
  intro n hn
  simp only [nodesPat, nodesPats, List.mem_cons, List.not_mem_nil, or_false] at hn
  subst hn
  exact ⟨hl, by simp only [Pat.n]; decide, by simp only [Pat.n]; decide⟩)
 rw [← Qgw nm]
 revert e1
 generalize rightN _ _ = b
 obtain ⟨k, a, m⟩ := b
 intro e1
 simp only [go_sem, TBad.enc, TBad.cells, Pat.enc] at e1
 refine ⟨s1, ?_, g1⟩
 rw [Qid]
 simp only [go_sem, Nat.reduceAdd, Nat.reduceLeDiff, e1]
theorem Qex (t : Ty) (s : St) (hl : t.name.length < 2^40) : Ret (cw (.f Q6E) [t.enc] s) s (.bool (goodB t)) := by
 obtain ⟨s1, e1, g1⟩ := Qfm t.name s hl
 have hg := QcT t.name
 unfold goodB goodC
 rw [QgO]
 simp only [go_sem, Nat.reduceAdd, Nat.reduceLeDiff, Ty.enc, Ty.cells_eq, hg, e1]
 generalize decide (t.kind = 1) = a
 generalize decide (t.kind = 2) = b
 generalize (decide (t.n = 0) && decide ((t.args.length : Int) ≥ (givenB t.name).1) && decide ((t.args.length : Int) ≤ (givenB t.name).2.1)) = c
 generalize (givenB t.name).2.2 = d
 cases a <;> cases b <;> cases c <;> cases d <;> first | exact ⟨_, rfl, g1⟩ | exact ⟨_, rfl, .refl _⟩
section
variable (L V : Nat)
def visF : AV := .fn Q2E [.vp L 0, .vp V 0]
def Left (m : Int) (s : St) : Prop := s.locs[L]? = some (.var [.val (.int .i64 m)]) ∧ s.locs[V]? = some (.var [.val (visF L V)])
def VisitOK (t : Ty) : Prop := ∀ m s, Left L V m s → 0 ≤ m → m < 2^40 → ∃ s' m' b, cw (.f Q2E) [t.enc, .vp L 0, .vp V 0] s = some (.ret (.val (.bool b)), s') ∧ (b = true ↔ (t.size : Int) ≤ m ∧ allTy goodB t = true) ∧ Left L V m' s' ∧ Moves [L] [] [] s s' ∧ (b = true → m' = m - t.size) ∧ -1 ≤ m' ∧ m' ≤ m
theorem Left.grew {m : Int} {s s' : St} (h : Left L V m s) (g : Grew s s') : Left L V m s' := ⟨g.loc h.1, g.loc h.2⟩
theorem Qas (hne : V ≠ L) (l : List Ty) (x : Slot) (hx : x.list? = some (l.map Ty.enc)) (hl : l.length < 2^40) : ∀ (suf pre : List Ty) (m : Int) (s : St) (i : Nat), pre ++ suf = l → i = pre.length → (∀ t ∈ suf, VisitOK L V t) → Left L V m s → 0 ≤ m → m < 2^40 →
  ∃ s' m' r, Qq x (.val (.fn ZR [.vp V 0])) (.val (.int .i64 l.length)) (.val (.int .i64 i)) s = some (.ret (.val (.int .i64 r)), s') ∧ (r < 0 ↔ (Ty.sizes suf : Int) ≤ m ∧ allTys goodB suf = true) ∧ Left L V m' s' ∧ Moves [L] [] [] s s' ∧ (r < 0 → m' = m - Ty.sizes suf) ∧ -1 ≤ m' ∧ m' ≤ m
 | [], pre, m, s, i, h, hi, H, hL, h0, h1 => by
   subst hi
   refine ⟨s, m, -1, ?_, ?_, hL, .refl _ _ _, by simp [Ty.sizes], by omega, Int.le_refl _⟩
   ·rw [Qr]; simp only [go_sem, Int.reduceNeg, Qf (by simpa using h)]
   ·simp [Ty.sizes, allTys, h0]
 | t :: suf, pre, m, s, i, h, hi, H, hL, h0, h1 => by
   subst hi
   obtain ⟨f1, f2, f3⟩ := Qc hx h (by omega) (Ty.cells_len t) (by decide)
   obtain ⟨s1, m1, b, e1, d1, l1, v1, q1, b1, b1'⟩ := H t List.mem_cons_self m s hL h0 h1
   have e2 : cw (.f ZR) [t.enc, .vp V 0] s = some (.ret (.val (.bool (!b))), s1) := by
    rw [Qao]
    simp only [go_sem, Nat.reduceAdd, Nat.reduceLeDiff, Zb hL.2, visF, e1]
   rw [Qr]
   simp only [go_sem, Int.reduceNeg, Nat.reduceLeDiff, f1, f2, f3, e2]
   have hsz : Ty.sizes (t :: suf) = t.size + Ty.sizes suf := rfl
   have hall : allTys goodB (t :: suf) = (allTy goodB t && allTys goodB suf) := rfl
   cases b with
   | true =>
     have hm1 := q1 rfl
     have hd := d1.1 rfl
     obtain ⟨s2, m2, r, e3, d3, l3, v3, q3, b3, b3'⟩ := Qas hne l x hx hl suf (pre ++ [t]) m1 s1 (pre.length + 1) (by simpa using h) (by simp) (fun w hw => H w (List.mem_cons_of_mem _ hw)) l1 (by omega) (by omega)
     refine ⟨s2, m2, r, by simp only [go_sem, e3], ?_, l3, v1.trans v3, fun hr => by rw [q3 hr, hm1, hsz]; omega, b3, by omega⟩
     rw [d3, hsz, hall, hd.2, Bool.true_and, hm1]
     constructor <;> rintro ⟨g1, g2⟩ <;> exact ⟨by omega, g2⟩
   | false =>
     refine ⟨s1, m1, pre.length, by simp only [go_sem], ?_, l1, v1, fun hr => by omega, b1, b1'⟩
     constructor
     ·intro hr; omega
     ·rintro ⟨h2, h3⟩
      rw [hall, Bool.and_eq_true] at h3
      exact absurd (d1.2 ⟨by omega, h3.1⟩) (by simp)
theorem Qat (hne : V ≠ L) : ∀ (k : Nat) (t : Ty), t.size ≤ k → t.size < 2^40 → NamesTy t → VisitOK L V t
 | 0, .mk _ _ _ _ _, h, _, _ => by simp only [Ty.size] at h; omega
 | k + 1, .mk kd n nm l nl, h, h', hn => fun m s hL h0 h1 => by
   simp only [Ty.size] at h h'
   have hl := Ty.len_sizes l
   have hnm : nm.length < 2^40 := hn.name
   have hsz : (Ty.mk kd n nm l nl).size = Ty.sizes l + 1 := rfl
   have hall : allTy goodB (.mk kd n nm l nl) = (goodB (.mk kd n nm l nl) && allTys goodB l) := rfl
   have hL' : Left L V (m - 1) { s with locs := s.locs.set L (.var [.val (.int .i64 (m - 1))]) } := ⟨Q5B hL.1, by rw [List.getElem?_set_ne (Ne.symm hne)]; exact hL.2⟩
   have hM' : Moves [L] [] [] s { s with locs := s.locs.set L (.var [.val (.int .i64 (m - 1))]) } := (Moves.refl _ _ _).setLoc (.inl (by simp)) _
   obtain ⟨s1, e1, g1⟩ := Qex (.mk kd n nm l nl) { s with locs := s.locs.set L (.var [.val (.int .i64 (m - 1))]) } hnm
   have HV : ∀ t ∈ l, VisitOK L V t := fun t ht => by
    have h1 := Ty.mem_sizes ht
    exact Qat hne k t (by omega) (by omega) (hn.arg ht)
   have w1 : IntKind.i64.wrap (m - 1) = m - 1 := wrap64 (by omega) (by omega)
   have hst := Q5E (c := [.val (.int .i64 (m - 1))]) hL.1 (off := 0) (by simp)
   simp only [go_sem, Nat.reduceAdd] at hst
   rw [QcS]
   simp only [go_sem, Ty.enc] at e1
   simp only [go_sem, Int.reduceNeg, Nat.reduceAdd, Nat.reduceLeDiff, Ty.enc, Zb hL.1, w1, hst, Zb hL'.1, e1]
   by_cases hm : m - 1 ≥ 0
   ·rw [decide_eq_true hm]
    cases hg : goodB (.mk kd n nm l nl) with
    | false =>
      refine ⟨s1, m - 1, false, by simp only [go_sem], ?_, hL'.grew _ _ g1, hM'.trans (.grew _ _ g1), by simp, by omega, by omega⟩
      simp [hall, hg]
    | true =>
      obtain ⟨s2, m2, r, e3, d3, l3, v3, q3, b3, b3'⟩ := Qas L V hne l (.val (encS nl (l.map Ty.enc))) (Qa _ _) (by omega) l [] (m - 1) s1 0 rfl rfl HV (hL'.grew _ _ g1) hm (by omega)
      have e4 : cw (.f Qm) [encS nl (l.map Ty.enc), .fn ZR [.vp V 0]] s1 = some (.ret (.val (.bool (decide (r ≥ 0)))), s2) := by
       rw [Zh]
       have : cw (.f QI) [encS nl (l.map Ty.enc), .fn ZR [.vp V 0]] s1 = some (.ret (.val (.int .i64 r)), s2) := by
        rw [ZD]; simp only [go_sem]
        exact e3
       simp only [go_sem, this]
      refine ⟨s2, m2, !decide (r ≥ 0), by simp only [go_sem, e4], ?_, l3, (hM'.trans (.grew _ _ g1)).trans v3, fun hr => ?_, b3, by omega⟩
      ·rw [hsz, hall, hg, Bool.true_and]
       simp only [Bool.not_eq_true', decide_eq_false_iff_not]
       constructor
       ·intro hr
        have := d3.1 (by omega)
        exact ⟨by omega, this.2⟩
       ·rintro ⟨g2, g3⟩
        have := d3.2 ⟨by omega, g3⟩
        omega
      ·simp only [Bool.not_eq_true', decide_eq_false_iff_not] at hr
       rw [q3 (by omega), hsz]; omega
   ·rw [decide_eq_false hm]
    refine ⟨_, m - 1, false, by simp only [go_sem], ?_, hL', hM', by simp, by omega, by omega⟩
    constructor
    ·intro h; cases h
    ·rintro ⟨g1, _⟩; omega
end
theorem Q3C (t : Ty) (s : St) (h : t.size < 2^40) (hn : NamesTy t) : Ret (cw (.f Q2D) [t.enc] s) s (.bool (rightTyB t)) := by
 obtain ⟨s', m', b, e1, d1, -, v1, -⟩ := Qat s.locs.length (s.locs.length + 1) (by omega) t.size t (Nat.le_refl _) h hn 256 (St.addLoc (St.addLoc s (.var [.val (.int .i64 256)])) (.var [.val (visF s.locs.length (s.locs.length + 1))]))
  ⟨by simp [St.addLoc], by simp [St.addLoc]⟩ (by decide) (by decide)
 have hb : b = rightTyB t := by
  unfold rightTyB
  rw [Bool.eq_iff_iff, d1]
  simp only [Bool.and_eq_true, decide_eq_true_eq]
  constructor <;> rintro ⟨g1, g2⟩ <;> exact ⟨by omega, g2⟩
 subst hb
 rw [Qfk]
 have e4 : ldV (C.ti Qn) false (St.addLoc (St.addLoc s (.var [.val (.int .i64 256)])) (.var [.val (visF s.locs.length (s.locs.length + 1))])) (.val (.vp (s.locs.length + 1) 0)) = some (.val (visF s.locs.length (s.locs.length + 1))) := by
  have := Q4E (St.addLoc s (.var [.val (.int .i64 256)])) (.var [.val (visF s.locs.length (s.locs.length + 1))])
  rw [Q9F] at this
  rw [Zb this]; simp only [go_sem, Nat.reduceAdd, Nat.reduceLeDiff]
 simp only [visF] at e1 e4
 simp only [go_sem, Nat.reduceLeDiff, Ty.enc, e4, e1]
 simp only [visF] at v1
 refine ⟨s', rfl, Moves.toGrew (Moves.shrink (h' := []) (A := []) (h := []) ?_ (by simp))⟩
 refine Moves.since (A := []) (h := []) ((Moves.grew [] [] (((Grew.refl s).addLoc _).addLoc _))) v1 (fun i hi => .inr ?_) (by simp)
 simp only [List.mem_singleton] at hi; omega
theorem Q7z (l : List Ty) (x : Slot) (hx : x.list? = some (l.map Ty.enc)) (hl : l.length < 2^40) : ∀ (suf pre : List Ty) (n : Int) (s : St) (i : Nat), pre ++ suf = l → i = pre.length → (∀ t ∈ suf, ∀ s, cw (.f Q2g) [t.enc] s = some (.ret (.val (.int .i64 t.size)), s)) → 0 ≤ n → n + Ty.sizes suf < 2^40 →
  Q2P (.val (.int .i64 n)) x (.val (.int .i64 l.length)) (.val (.int .i64 i)) s = some (.ret (.val (.int .i64 (n + Ty.sizes suf))), s)
 | [], pre, n, s, i, h, hi, H, h0, h1 => by
   subst hi
   rw [Q6v]; simp only [go_sem, Qf (by simpa using h), Ty.sizes]
   simp
 | t :: suf, pre, n, s, i, h, hi, H, h0, h1 => by
   subst hi
   obtain ⟨f1, f2, f3⟩ := Qc hx h (by omega) (Ty.cells_len t) (by decide)
   simp only [Ty.sizes] at h1
   have e1 := H t List.mem_cons_self s
   have w1 : IntKind.i64.wrap (n + (t.size : Int)) = n + t.size := wrap64 (by omega) (by omega)
   have ih := Q7z l x hx hl suf (pre ++ [t]) (n + t.size) s (pre.length + 1) (by simpa using h) (by simp) (fun w hw => H w (List.mem_cons_of_mem _ hw)) (by omega) (by omega)
   rw [Q6v]; simp only [go_sem, Nat.reduceAdd, Nat.reduceLeDiff, f1, f2, f3, e1, w1, ih]
   rw [show n + (t.size : Int) + (Ty.sizes suf : Int) = n + (Ty.sizes (t :: suf) : Int) by simp only [Ty.sizes]; omega]
theorem Q7A : ∀ (k : Nat) (t : Ty) (s : St), t.size ≤ k → t.size < 2^40 → cw (.f Q2g) [t.enc] s = some (.ret (.val (.int .i64 t.size)), s)
 | 0, .mk _ _ _ _ _, _, h, _ => by simp only [Ty.size] at h; omega
 | k + 1, .mk kd n nm l nl, s, h, h' => by
   simp only [Ty.size] at h h'
   have hl := Ty.len_sizes l
   have e1 := Q7z l (.val (encS nl (l.map Ty.enc))) (Qa _ _) (by omega) l [] 1 s 0 rfl rfl (fun t ht s => by
    have := Ty.mem_sizes ht
    exact Q7A k t s (by omega) (by omega)) (by omega) (by omega)
   rw [QgM]
   rw [show ((0 : Nat) : Int) = 0 from rfl] at e1
   simp only [go_sem, Nat.reduceAdd, Nat.reduceLeDiff, Ty.enc, e1]
   rw [show 1 + (Ty.sizes l : Int) = ((Ty.mk kd n nm l nl).size : Int) by simp only [Ty.size]; omega]
def TySameOK (t : Ty) : Prop := ∀ u s, cw (.f Q2f) [t.enc, u.enc] s = some (.ret (.val (.bool (eqTy t u))), s)
theorem Q7y (L M : List Ty) (x y : Slot) (hx : x.list? = some (L.map Ty.enc)) (hy : y.list? = some (M.map Ty.enc)) (hl : L.length < 2^40) (he : M.length = L.length) : ∀ (suf suf' pre pre' : List Ty) (s : St) (i : Nat), pre ++ suf = L → pre' ++ suf' = M → i = pre.length → pre'.length = pre.length → (∀ t ∈ suf, TySameOK t) →
  Qv y (.val (.fn Q2f [])) x (.val (.int .i64 L.length)) (.val (.int .i64 i)) s = some (.ret (.val (.bool (eqTys suf suf'))), s)
 | [], suf', pre, pre', s, i, h, g, hi, hp, H => by
   subst hi
   have : suf' = [] := by
    have h1 := congrArg List.length h
    have h2 := congrArg List.length g
    simp only [List.length_append, List.length_nil] at h1 h2
    exact List.eq_nil_of_length_eq_zero (by omega)
   subst this
   rw [Zr]; simp only [go_sem, Qf (by simpa using h), eqTys]
 | t :: suf, suf', pre, pre', s, i, h, g, hi, hp, H => by
   subst hi
   cases suf' with
   | nil =>
     have h1 := congrArg List.length h
     have h2 := congrArg List.length g
     simp only [List.length_append, List.length_nil, List.length_cons] at h1 h2
     omega
   | cons u suf' =>
     obtain ⟨f1, f2, f3⟩ := Qc hx h (by omega) (Ty.cells_len t) (by decide)
     obtain ⟨-, g2, -⟩ := Qc hy g (by omega) (Ty.cells_len u) (by decide)
     rw [hp] at g2
     have e1 := H t (List.mem_cons_self) u s
     have ih := Q7y L M x y hx hy hl he suf suf' (pre ++ [t]) (pre' ++ [u]) s (pre.length + 1) (by simpa using h) (by simpa using g) (by simp) (by simp [hp]) (fun w hw => H w (List.mem_cons_of_mem _ hw))
     rw [Zr]; simp only [go_sem, Nat.reduceAdd, Nat.reduceLeDiff, f1, f2, f3, g2, e1, ih, eqTys]
     cases eqTy t u <;> rfl
theorem Qeu (L M : List Ty) (v w : AV) (hv : (Slot.val v).list? = some (L.map Ty.enc)) (hw : (Slot.val w).list? = some (M.map Ty.enc)) (hl : L.length < 2^40) (H : ∀ t ∈ L, TySameOK t) (s : St) : cw (.f QK) [v, w, .fn Q2f []] s = some (.ret (.val (.bool (eqTys L M))), s) := by
 rw [Q1S]; simp only [go_sem, hv, hw, List.length_map]
 by_cases he : M.length = L.length
 ·have h1 := Q7y L M (.val v) (.val w) hv hw hl he L M [] [] s 0 rfl rfl rfl rfl H
  rw [show ((0 : Nat) : Int) = 0 from rfl] at h1
  simp only [go_sem, decide_eq_true (show ((L.length : Int) = M.length) by omega), h1]
 ·simp only [go_sem, decide_eq_false (show ¬ ((L.length : Int) = M.length) by omega), Q4J L M (fun h => he h.symm)]
theorem Qap : ∀ (k : Nat) (t : Ty), t.size ≤ k → WideTy t → TySameOK t
 | 0, .mk _ _ _ _ _, h, _ => by simp only [Ty.size] at h; omega
 | k + 1, .mk kd n nm l nl, h, h' => fun u s => by
   obtain ⟨k', n', nm', l', nl'⟩ := u
   simp only [Ty.size] at h
   have hl := h'.len
   have e1 := fun s => Qeu l l' (encS nl (l.map Ty.enc)) (encS nl' (l'.map Ty.enc)) (Qa _ _) (Qa _ _) (by omega) (fun t ht => by
    have := Ty.mem_sizes ht
    exact Qap k t (by omega) (h'.arg ht)) s
   rw [QgL]
   simp only [go_sem, Nat.reduceAdd, Nat.reduceLeDiff, Ty.enc, e1, eqTy]
theorem Qev (t : Ty) (h : WideTy t) : TySameOK t := Qap _ t (Nat.le_refl _) h
end Go.Proofs.YtobelgghegmhhaaGreatDoor
namespace Go.Proofs.YtobelgghegmhhaaGreatDoor
open Go Go.Am
set_option linter.unusedVariables false
set_option maxRecDepth 4000
theorem tyAcc {A0 h0 h : List Nat} {s0 s : St} {x y : Slot} {A B : List Ty} (a : AccH Q3 s0.toks.length h s x (A.map Ty.enc)) (M : Moves A0 h0 h s0 s) (hh : ∀ k ∈ h, k < s.toks.length) (hy : y.list? = some (B.map Ty.enc)) (b : A.length + B.length < 2^30) :
  ∃ x' s', appendS Q3 (C.ti Q3) s x y = some (x', s') ∧ AccH Q3 s0.toks.length h s' x' ((A ++ B).map Ty.enc) ∧ Moves A0 h0 h s0 s' ∧ s'.locs = s.locs ∧ (∀ k ∈ h, s'.toks[k]? = s.toks[k]?) ∧ (∀ k ∈ h, k < s'.toks.length) :=
 AccH.appendF a M hh hy (fun a => by rw [Q4C]; exact Ty.cells_len a) (by rw [Q4C]; decide) b (by rw [Qg1]; decide)
def OwnOK (t : Ty) : Prop := ∀ s, Ret (cw (.f Q2U) [t.enc] s) s (ownTy t).enc
theorem Q8z (t : Ty) (hl : t.args.length < 2^28) (s0 : St) (z : List Slot) (hz : z.length = 4) : ∀ (suf pre A : List Ty) (x : Slot) (s : St) (i : Nat), AccH Q3 s0.toks.length [] s x (A.map Ty.enc) → Moves [] [] [] s0 s → pre ++ suf = t.args → i = pre.length → A.length = pre.length → (∀ t ∈ suf, OwnOK t) →
  Ret (Q3r z [.val (.int .i64 t.kind), .val (.int .i64 t.n), .val (.str t.name), x] (.val (encS t.nl (t.args.map Ty.enc))) (.val (.int .i64 t.args.length)) (.val (.int .i64 i)) s) s0 (Ty.mk t.kind t.n t.name (A ++ ownTys suf) true).enc
 | [], pre, A, x, s, i, hA, hM, h, hi, hn, H => by
   subst hi
   rw [Q7C]; simp only [go_sem, Nat.reduceAdd, Nat.reduceLeDiff, Qf (by simpa using h), Z5 hA.av, ownTys, hz]
   exact ⟨_, by simp only [Ty.enc]; rw [Ty.cells_mk], hM.toGrew⟩
 | u :: suf, pre, A, x, s, i, hA, hM, h, hi, hn, H => by
   subst hi
   obtain ⟨f1, f2, f3⟩ := Qc (x := .val (encS t.nl (t.args.map Ty.enc))) (Qa _ _) h (by omega) (Ty.cells_len u) (by decide)
   obtain ⟨s1, e1, g1⟩ := H u List.mem_cons_self s
   have hlen : pre.length < t.args.length := by rw [← h]; simp
   have hM1 := hM.trans (.grew [] [] g1)
   obtain ⟨x1, s2, e2, a2, m2, -, -, -⟩ := tyAcc (A0 := []) (h0 := []) (h := []) (s0 := s0) (B := [ownTy u]) (y := .full [(ownTy u).enc]) (hA.move (.grew [] [] g1)) hM1 (by simp) rfl (by simp only [List.length_singleton]; omega)
   have ih := Q8z t hl s0 z hz suf (pre ++ [u]) (A ++ [ownTy u]) x1 s2 (pre.length + 1) a2 m2 (by simpa using h) (by simp) (by simp [hn]) (fun w hw => H w (List.mem_cons_of_mem _ hw))
   have c1 := a2.cellOk
   rw [Q7C]; simp only [go_sem, Nat.reduceAdd, Nat.reduceLeDiff, f1, f2, f3, e1, e2, c1, ownTys] at ih ⊢
   exact ih
theorem Q5h : ∀ (k : Nat) (t : Ty), t.size ≤ k → WideTy t → OwnOK t
 | 0, .mk _ _ _ _ _, h, _ => by simp only [Ty.size] at h; omega
 | k + 1, .mk kd n nm l nl, h, h' => fun s => by
   simp only [Ty.size] at h
   have hl := h'.len
   have e1 := Q8z (.mk kd n nm l nl) (by simp only [Ty.args]; omega) s [.val (.int .i64 0), .val (.int .i64 0), .val (.str []), .val .nils] rfl l [] [] (.val .nils) s 0 (.nil _ _ _ _) (.refl _ _ _) rfl rfl rfl (fun t ht => by
    have := Ty.mem_sizes ht
    exact Q5h k t (by omega) (h'.arg ht))
   rw [show ((0 : Nat) : Int) = 0 from rfl] at e1
   rw [Qie]
   simp only [go_sem, Nat.reduceAdd, Nat.reduceLeDiff, Ty.enc, Ty.kind, Ty.n, Ty.name, Ty.args, Ty.nl, ownTy] at e1 ⊢
   exact e1
theorem Qan (nm : Str) (l : List Ty) (y : Slot) (hy : y.list? = some (l.map Ty.enc)) (hl : l.length < 2^28) (s0 : St) (z : List Slot) (hz : z.length = 4) : ∀ (suf pre A : List Ty) (x : Slot) (s : St) (i : Nat), AccH Q3 s0.toks.length [] s x (A.map Ty.enc) → Moves [] [] [] s0 s → pre ++ suf = l → i = pre.length → A.length = pre.length → (∀ t ∈ suf, OwnOK t) →
  Ret (Q4w z [.val (.int .i64 2), .val (.int .i64 0), .val (.str nm), x] y (.val (.int .i64 l.length)) (.val (.int .i64 i)) s) s0 (Ty.mk 2 0 nm (A ++ suf.map ownTy) true).enc
 | [], pre, A, x, s, i, hA, hM, h, hi, hn, H => by
   subst hi
   rw [Q8x]; simp only [go_sem, Nat.reduceAdd, Nat.reduceLeDiff, Qf (by simpa using h), Z5 hA.av, hz]
   exact ⟨_, by simp only [Ty.enc]; rw [Ty.cells_mk], hM.toGrew⟩
 | u :: suf, pre, A, x, s, i, hA, hM, h, hi, hn, H => by
   subst hi
   obtain ⟨f1, f2, f3⟩ := Qc hy h (by omega) (Ty.cells_len u) (by decide)
   obtain ⟨s1, e1, g1⟩ := H u List.mem_cons_self s
   have hlen : pre.length < l.length := by rw [← h]; simp
   have hM1 := hM.trans (.grew [] [] g1)
   obtain ⟨x1, s2, e2, a2, m2, -, -, -⟩ := tyAcc (A0 := []) (h0 := []) (h := []) (s0 := s0) (B := [ownTy u]) (y := .full [(ownTy u).enc]) (hA.move (.grew [] [] g1)) hM1 (by simp) rfl (by simp only [List.length_singleton]; omega)
   have ih := Qan nm l y hy hl s0 z hz suf (pre ++ [u]) (A ++ [ownTy u]) x1 s2 (pre.length + 1) a2 m2 (by simpa using h) (by simp) (by simp [hn]) (fun w hw => H w (List.mem_cons_of_mem _ hw))
   have c1 := a2.cellOk
   rw [Q8x]; simp only [go_sem, Nat.reduceAdd, Nat.reduceLeDiff, f1, f2, f3, e1, e2, c1] at ih ⊢
   exact ih
theorem QgK (nm : Str) (l : List Ty) (v : AV) (hv : (Slot.val v).list? = some (l.map Ty.enc)) (hl : l.length < 2^28) (hw : ∀ t ∈ l, WideTy t) (s : St) : Ret (cw (.f Q7G) [.str nm, v] s) s (ofTy nm l).enc := by
 have e1 := Qan nm l (.val v) hv (by omega) s [.val (.int .i64 0), .val (.int .i64 0), .val (.str []), .val .nils] rfl l [] [] (.val .nils) s 0 (.nil _ _ _ _) (.refl _ _ _) rfl rfl rfl (fun t ht => Q5h _ t (Nat.le_refl _) (hw t ht))
 rw [show ((0 : Nat) : Int) = 0 from rfl] at e1
 rw [QjD]
 simp only [go_sem, Nat.reduceAdd, Nat.reduceLeDiff, Ty.enc, hv, ofTy, List.length_map] at e1 ⊢
 exact e1
section
variable {σ : Type} (to : Int → σ → Ty × σ) (g : Nat) (caps : List AV) (A : List Nat) (R : σ → List Nat → St → Prop) (P : σ → Prop)
structure ToOK : Prop where
 call : ∀ n st h s, R st h s → P (to n st).2 → ∃ s' h', cw (.f g) (.int .i64 n :: caps) s = some (.ret (.val (to n st).1.enc), s') ∧ R (to n st).2 h' s' ∧ Moves A h h' s s'
 held : ∀ st h s, R st h s → ∀ k ∈ h, k < s.toks.length
 stab : ∀ st h s s', R st h s → s'.locs = s.locs → (∀ k ∈ h, s'.toks[k]? = s.toks[k]?) → R st h s'
 mono : ∀ n st, P (to n st).2 → P st
variable {to g caps A R P}
mutual
theorem Qhe (H : ToOK to g caps A R P) : ∀ (t : Ty) (st : σ), P (chTy to t st).2 → P st
 | .mk k n s l b, st, h => by
   simp only [chTy] at h
   cases hk : decide (k = 1) with
   | true => rw [hk] at h; exact H.mono n st h
   | false => rw [hk] at h; exact Q3S H l st h
theorem Q3S (H : ToOK to g caps A R P) : ∀ (l : List Ty) (st : σ), P (chTys to l st).2 → P st
 | [], st, h => h
 | t :: l, st, h => by
   simp only [chTys] at h
   exact Qhe H t st (Q3S H l _ h)
end
def ChOK (to : Int → σ → Ty × σ) (g : Nat) (caps : List AV) (A : List Nat) (R : σ → List Nat → St → Prop) (P : σ → Prop) (t : Ty) : Prop :=
 ∀ st h s, R st h s → P (chTy to t st).2 → ∃ s' h', cw (.f Q12) [t.enc, .fn g caps] s = some (.ret (.val (chTy to t st).1.enc), s') ∧ R (chTy to t st).2 h' s' ∧ Moves A h h' s s'
theorem Q5L (H : ToOK to g caps A R P) (t : Ty) (hl : t.args.length < 2^28) (s0 : St) (h0 : List Nat) (z : List Slot) (hz : z.length = 4) : ∀ (suf pre B : List Ty) (x : Slot) (st : σ) (h : List Nat) (s : St) (i : Nat), AccH Q3 s0.toks.length h s x (B.map Ty.enc) → Moves A h0 h s0 s → R st h s → P (chTys to suf st).2 → pre ++ suf = t.args → i = pre.length → B.length = pre.length → (∀ t ∈ suf, ChOK to g caps A R P t) →
  ∃ s' h', Q1v (.val (.fn g caps)) z [.val (.int .i64 t.kind), .val (.int .i64 t.n), .val (.str t.name), x] (.val (encS t.nl (t.args.map Ty.enc))) (.val (.int .i64 t.args.length)) (.val (.int .i64 i)) s = some (.ret (.val (Ty.mk t.kind t.n t.name (B ++ (chTys to suf st).1) true).enc), s') ∧ R (chTys to suf st).2 h' s' ∧ Moves A h0 h' s0 s'
 | [], pre, B, x, st, h, s, i, hA, hM, hR, hP, hpre, hi, hn, HC => by
   subst hi
   refine ⟨s, h, ?_, hR, hM⟩
   rw [Q52]; simp only [go_sem, Nat.reduceAdd, Nat.reduceLeDiff, Qf (by simpa using hpre), Z5 hA.av, chTys, hz]
   simp only [Ty.enc]; rw [Ty.cells_mk]
 | u :: suf, pre, B, x, st, h, s, i, hA, hM, hR, hP, hpre, hi, hn, HC => by
   subst hi
   obtain ⟨f1, f2, f3⟩ := Qc (x := .val (encS t.nl (t.args.map Ty.enc))) (Qa _ _) hpre (by omega) (Ty.cells_len u) (by decide)
   have hlen : pre.length < t.args.length := by rw [← hpre]; simp
   simp only [chTys] at hP
   obtain ⟨s1, h1, e1, r1, m1⟩ := HC u List.mem_cons_self st h s hR (Q3S H suf _ hP)
   obtain ⟨x1, s2, e2, a2, m2, l2, t2, b2⟩ := tyAcc (B := [(chTy to u st).1]) (y := .full [(chTy to u st).1.enc]) (hA.move m1) (hM.trans m1) (H.held _ _ _ r1) rfl (by simp only [List.length_singleton]; omega)
   have r2 := H.stab _ _ _ s2 r1 l2 t2
   obtain ⟨s3, h3, e3, r3, m3⟩ := Q5L H t hl s0 h0 z hz suf (pre ++ [u]) (B ++ [(chTy to u st).1]) x1 (chTy to u st).2 h1 s2 (pre.length + 1) a2 m2 r2 hP (by simpa using hpre) (by simp) (by simp [hn]) (fun w hw => HC w (List.mem_cons_of_mem _ hw))
   refine ⟨s3, h3, ?_, r3, m3⟩
   have c1 := a2.cellOk
   rw [Q52]; simp only [go_sem, Nat.reduceAdd, Nat.reduceLeDiff, f1, f2, f3, e1, e2, c1, chTys] at e3 ⊢
   exact e3
theorem Q35 (H : ToOK to g caps A R P) : ∀ (k : Nat) (t : Ty), t.size ≤ k → WideTy t → ChOK to g caps A R P t
 | 0, .mk _ _ _ _ _, h, _ => by simp only [Ty.size] at h; omega
 | k + 1, .mk kd n nm l nl, hs, hs' => fun st h s hR hP => by
   simp only [Ty.size] at hs
   have hl := hs'.len
   simp only [chTy] at hP ⊢
   rw [Qew]
   by_cases hk : kd = 1
   ·rw [decide_eq_true hk, cond_true] at hP
    obtain ⟨s1, h1, e1, r1, m1⟩ := H.call n st h s hR hP
    refine ⟨s1, h1, ?_, by rw [decide_eq_true hk]; exact r1, m1⟩
    simp only [go_sem, Nat.reduceAdd, Nat.reduceLeDiff, Ty.enc, decide_eq_true hk, e1, cond_true]
   ·rw [decide_eq_false hk, cond_false] at hP
    obtain ⟨s1, h1, e1, r1, m1⟩ := Q5L H (.mk kd n nm l nl) (by simp only [Ty.args]; omega) s h [.val (.int .i64 0), .val (.int .i64 0), .val (.str []), .val .nils] rfl l [] [] (.val .nils) st h s 0 (.nil _ _ _ _) (.refl _ _ _) hR hP rfl rfl rfl (fun t ht => by
     have := Ty.mem_sizes ht
     exact Q35 H k t (by omega) (hs'.arg ht))
    refine ⟨s1, h1, ?_, by rw [decide_eq_false hk]; exact r1, m1⟩
    rw [show ((0 : Nat) : Int) = 0 from rfl] at e1
    simp only [go_sem, Nat.reduceAdd, Nat.reduceLeDiff, Ty.enc, Ty.kind, Ty.n, Ty.name, Ty.args, Ty.nl, decide_eq_false hk, cond_false] at e1 ⊢
    exact e1
end
theorem QjB (l : List Ty) (v : AV) (hv : (Slot.val v).list? = some (l.map Ty.enc)) (hl : l.length < 2^40) (hs : ∀ t ∈ l, WideTy t) : ToOK (toPut l) Q5O [.cp [v]] [] (fun _ h _ => h = []) (fun _ => True) where
 call n st h s hR _ := by
  subst hR
  have hvl : (ofCells (C.ti Q6) (List.take (C.ti Q6).size [v])) = some v := by
   simp only [go_sem, Nat.reduceAdd, Nat.reduceLeDiff]
  by_cases hn : 0 ≤ n ∧ n < l.length
  ·obtain ⟨m, rfl⟩ := Int.eq_ofNat_of_zero_le hn.1
   have hm : m < l.length := by omega
   obtain ⟨s1, e1, g1⟩ := Q5h _ l[m] (Nat.le_refl _) (hs _ (List.getElem_mem hm)) s
   refine ⟨s1, [], ?_, rfl, .grew _ _ g1⟩
   have hix : ixS 4 (.val v) (.val (.int .i64 (m : Int))) = some (.val (.cp l[m].cells)) := Q18 hv (v := l[m].enc) (by simp [hm]) (Ty.cells_len _) (by decide)
   have hge : decide ((m : Int) ≥ 0) = true := decide_eq_true (by omega)
   have hlt : decide ((m : Int) < (l.length : Int)) = true := decide_eq_true (by omega)
   rw [Q8y]
   simp only [go_sem, Nat.reduceAdd, Nat.reduceLeDiff, hge, hv, List.length_map, hlt, hix, Ty.enc] at e1 ⊢
   simp only [go_sem, Nat.reduceAdd, Nat.reduceLeDiff, e1, toPut, hn, and_self, if_true]
   simp [hm]
  ·refine ⟨s, [], ?_, rfl, .refl _ _ _⟩
   rw [Q8y]
   simp only [toPut, if_neg hn]
   by_cases h0 : n ≥ 0
   ·have hlt : decide (n < (l.length : Int)) = false := decide_eq_false (by omega)
    simp only [go_sem, Nat.reduceAdd, Nat.reduceLeDiff, decide_eq_true h0, hv, hlt, Ty.enc, tvar]
   ·simp only [go_sem, Nat.reduceAdd, Nat.reduceLeDiff, decide_eq_false h0, Ty.enc, tvar]
 held := by rintro _ _ _ rfl k hk; cases hk
 stab := by rintro _ _ _ _ rfl _ _; rfl
 mono := fun _ _ _ => trivial
theorem Qfj (t : Ty) (l : List Ty) (nl : Bool) (s : St) (ht : WideTy t) (hl : l.length < 2^40) (hs : ∀ t ∈ l, WideTy t) : Ret (cw (.f Q8D) [t.enc, encS nl (l.map Ty.enc)] s) s (putTy t l).enc := by
 obtain ⟨s1, h1, e1, r1, m1⟩ := Q35 (QjB l (encS nl (l.map Ty.enc)) (Qa _ _) hl hs) _ t (Nat.le_refl _) ht () [] s rfl trivial
 subst r1
 refine ⟨s1, ?_, m1.toGrew⟩
 rw [Qic]
 simp only [go_sem, Nat.reduceLeDiff, Ty.enc, putTy] at e1 ⊢
 simp only [go_sem, Nat.reduceAdd, Nat.reduceLeDiff, e1]
theorem Q67 (n m : Int) : ∀ (l : List Int) (i : Nat), placeI n (l ++ [m]) i = match placeI n l i with | some j => some j | none => if n = m then some (i + l.length) else none
 | [], i => by simp [placeI]
 | a :: l, i => by
   simp only [List.cons_append, placeI, Q67 n m l (i + 1), List.length_cons]
   by_cases h : n = a
   ·simp [h]
   ·simp only [h, if_false]
    rw [show i + 1 + l.length = i + (l.length + 1) by omega]
def ekI (n : Int) : AV := .int .i64 n
def oldV (old : List Int) (n : Int) : Option Int := match placeI n old 0 with | some i => some (i : Int) | none => none
structure OldR (ml pl ol : Nat) (old : List Int) (h : List Nat) (s : St) : Prop where
 mp : s.locs[pl]? = some (.var [.val (.mp ml)])
 map : ∃ es c D, s.locs[ml]? = some (.map es c) ∧ MapIs ekI ekI (oldV old) es c D
 old : ∃ x, s.locs[ol]? = some (.var [x]) ∧ HeldIs Q1 s x (old.map ekI) h
theorem QgI (ml pl ol : Nat) (h1 : pl ≠ ml) (h2 : pl ≠ ol) (h3 : ml ≠ ol) : ToOK toCanon Q4c [.vp pl 0, .vp ol 0] [ml, ol] (OldR ml pl ol) (fun old => old.length < 2^28) where
 call n old h s hR hP := by
  obtain ⟨hmp, ⟨es, c, D, hml, hM⟩, x, hol, hx⟩ := hR
  have hlk := Q59 hM keyInt (kt := C.ti Q1) (et := C.ti Q1) n (Q2h Q15 n) hml (z := .int .i64 0) (Qch Q9j Q6F Q9k) true
  rw [QcQ]
  unfold oldV at hlk
  simp only [ekI] at hlk
  cases hp : placeI n old 0 with
  | some i =>
    rw [hp] at hlk
    simp only [cond_true] at hlk
    refine ⟨s, h, ?_, ?_, .refl _ _ _⟩
    ·simp only [go_sem, Nat.reduceAdd, Nat.reduceLeDiff, Zb hmp, hlk, toCanon, hp, tvar, Ty.enc]
    ·simp only [toCanon, hp]; exact ⟨hmp, ⟨es, c, D, hml, hM⟩, x, hol, hx⟩
  | none =>
    rw [hp] at hlk
    simp only [cond_true] at hlk
    simp only [toCanon, hp, List.length_append, List.length_singleton] at hP
    have hlist := hx.list?
    obtain ⟨es', c', D', eu, hM'⟩ := Q8B hM keyInt (kt := C.ti Q1) (et := C.ti Q1) n (Q2h Q15 n) hml (x := .val (.int .i64 old.length)) (v := (old.length : Int)) rfl (by rw [Q1F]; rfl)
    simp only [ekI] at eu
    simp only [go_sem, Nat.reduceAdd, Nat.reduceLeDiff, Zb hmp, hlk, Zb hol, hlist, List.length_map, eu]
    have hol1 : ({ s with locs := s.locs.set ml (.map es' c') } : St).locs[ol]? = some (.var [x]) := by
     show (s.locs.set ml _)[ol]? = _
     rw [List.getElem?_set_ne h3]; exact hol
    obtain ⟨x2, s2, h2', e2, a2, l2, m2⟩ := HeldIs.appendF (f := ekI) (t := C.ti Q1) (B := [n]) (y := .full [.int .i64 n]) (hx.stab (s' := { s with locs := s.locs.set ml (.map es' c') }) (fun _ _ => rfl)) rfl (fun a => by rw [Q1F]; rfl) (by rw [Q1F]; decide) (by simp only [List.length_singleton]; omega) (by rw [Q7Y]; decide)
    have c2 := a2.cellOk
    have hol2 : s2.locs[ol]? = some (.var [x]) := by rw [l2]; exact hol1
    have hst := Q5E (c := [x2]) hol2 (off := 0) (by simp)
    simp only [go_sem, Nat.reduceAdd] at hst
    simp only [go_sem, Nat.reduceAdd, Nat.reduceLeDiff, Zb hol1, e2, c2, hst]
    refine ⟨_, h2', ⟨by simp only [toCanon, hp, tvar, Ty.enc, Ty.cells_mk]; rfl, ?_, ?_⟩⟩
    ·simp only [toCanon, hp]
     refine ⟨?_, ⟨es', c', D', ?_, ?_⟩, x2, Q5B hol2, a2.stab (fun _ _ => rfl)⟩
     ·show (s2.locs.set ol _)[pl]? = _
      rw [List.getElem?_set_ne (Ne.symm h2), l2]
      show (s.locs.set ml _)[pl]? = _
      rw [List.getElem?_set_ne (Ne.symm h1)]; exact hmp
     ·show (s2.locs.set ol _)[ml]? = _
      rw [List.getElem?_set_ne (Ne.symm h3), l2]
      exact Q5B hml
     ·have : oldV (old ++ [n]) = upd (oldV old) n (old.length : Int) := by
       funext m
       unfold oldV upd
       rw [Q67]
       by_cases hm : m = n
       ·subst hm; simp [hp]
       ·simp only [hm, if_false]
        cases placeI m old 0 <;> rfl
      rw [this]; exact hM'
    ·have m0 : Moves [ml, ol] h h s { s with locs := s.locs.set ml (.map es' c') } := (Moves.refl _ _ _).setLoc (.inl (by simp)) _
     exact (m0.trans (m2.wider (by simp))).setLoc (.inl (by simp)) _
 held := by
  rintro old h s ⟨_, _, x, _, hx⟩
  exact hx.held
 stab := by
  rintro old h s s' ⟨hmp, hm, x, hol, hx⟩ hl ht
  exact ⟨by rw [hl]; exact hmp, by rw [hl]; exact hm, x, by rw [hl]; exact hol, hx.stab ht⟩
 mono := fun n old h => by
  simp only [toCanon] at h
  split at h
  ·exact h
  ·simp only [List.length_append, List.length_singleton] at h; omega
theorem Q84 : (∀ (t : Ty) (old : List Int), (chTy toCanon t old).2.length ≤ old.length + t.size) := by
 have both : ∀ k : Nat, (∀ (t : Ty) (old : List Int), t.size ≤ k → (chTy toCanon t old).2.length ≤ old.length + t.size) := by
  intro k
  induction k with
  | zero => rintro ⟨_, _, _, _, _⟩ _ h; simp only [Ty.size] at h; omega
  | succ k ih =>
    rintro ⟨kd, n, nm, l, nl⟩ old h
    simp only [Ty.size] at h ⊢
    simp only [chTy]
    cases decide (kd = 1) with
    | true =>
      simp only [cond_true, toCanon]
      split
      ·show old.length ≤ _
       omega
      ·simp only [List.length_append, List.length_singleton]; omega
    | false =>
      simp only [cond_false]
      have hl : ∀ (l : List Ty) (old : List Int), Ty.sizes l ≤ k → (chTys toCanon l old).2.length ≤ old.length + Ty.sizes l := by
       intro l
       induction l with
       | nil => intro old _; simp only [chTys, Ty.sizes]; omega
       | cons t l ihl =>
         intro old hk
         simp only [Ty.sizes] at hk ⊢
         simp only [chTys]
         have h1 := ih t old (by omega)
         have h2 := ihl (chTy toCanon t old).2 (by omega)
         omega
      have := hl l old (by omega)
      omega
 exact fun t old => both _ t old (Nat.le_refl _)
theorem QcR (t : Ty) (s : St) (ht : t.size < 2^28) : Ret (cw (.f Q5N) [t.enc] s) s (.tup [(canonTy t).1.enc, encS true ((canonTy t).2.map ekI)]) := by
 have hlen := Q84 t []
 simp only [List.length_nil] at hlen
 obtain ⟨s1, h1, e1, ⟨-, -, x, hol, hx⟩, m1⟩ := Q35 (QgI s.locs.length (s.locs.length + 1) (s.locs.length + 2) (by omega) (by omega) (by omega)) _ t (Nat.le_refl _) (ZU t ht) [] [] (((s.addLoc (.map [] 0)).addLoc (.var [.val (.mp s.locs.length)])).addLoc (.var [.val .nils]))
  ⟨by simp [St.addLoc], ⟨[], 0, [], by simp [St.addLoc], .nil⟩, _, by simp [St.addLoc], .inl ⟨rfl, rfl, rfl⟩⟩ (by show _ < _; omega)
 refine ⟨s1, ?_, Moves.toGrew (Moves.since (A := []) (h := []) (.grew _ _ ((((Grew.refl s).addLoc _).addLoc _).addLoc _)) m1 (fun i hi => .inr ?_) (by simp))⟩
 ·rw [Qfi]
  have e3 := Qbh hx.av []
  simp only [go_sem, Nat.reduceLeDiff, Ty.enc, canonTy] at e1 e3 ⊢
  simp only [go_sem, Nat.reduceAdd, Nat.reduceLeDiff, e1, Zb hol, e3]
 ·simp only [List.mem_cons, List.not_mem_nil, or_false] at hi; omega
theorem Q7B (t : Ty) (s : St) (ht : t.size < 2^28) : Ret (cw (.f Q6D) [t.enc] s) s (encS true ((canonTy t).2.map ekI)) := by
 obtain ⟨s1, e1, g1⟩ := QcR t s ht
 refine ⟨s1, ?_, g1⟩
 rw [QgN]
 simp only [go_sem, Nat.reduceLeDiff, Ty.enc] at e1 ⊢
 simp only [go_sem, Nat.reduceAdd, Nat.reduceLeDiff, e1]
end Go.Proofs.YtobelgghegmhhaaGreatDoor
namespace Go.Am
open Go
theorem HeldIs.congr {e : TypeId} {s s' : St} {x : Slot} {l : List AV} {h : List Nat} (a : HeldIs e s x l h) (ht : s'.toks = s.toks) : HeldIs e s' x l h := a.stab fun k _ => by rw [ht]
theorem Q6J {e : TypeId} {t : TI} {s s' : St} {x y x' : Slot} (h : appendS e t s x y = some (x', s')) (hx : ∀ l, x ≠ .full l) : (∀ l, x' ≠ .full l) ∧ s'.bl = s.bl := by
 unfold appendS at h
 split at h
 ·split at h
  ·cases h; exact ⟨hx, rfl⟩
  ·cases h
 ·cases ho : okSz t.size _ with
  | false => rw [ho] at h; cases h
  | true =>
    rw [ho] at h
    simp only [cond_true] at h
    split at h
    ·rename_i k e' l
     cases hq : okSz t.size l with
     | false => rw [hq] at h; cases h
     | true =>
       rw [hq] at h
       simp only [cond_true] at h
       split at h
       ·cases h; exact ⟨fun l hl => (by cases hl), rfl⟩
       ·cases h
    ·exact absurd rfl (hx _)
    ·split at h
     ·cases h; exact ⟨fun l hl => (by cases hl), rfl⟩
     ·cases h
    ·cases h
 ·cases h
end Go.Am
namespace Go.Proofs.YtobelgghegmhhaaGreatDoor
open Go Go.Am
set_option linter.unusedVariables false
set_option maxRecDepth 4000
theorem Q29 {f : Nat} {g : List AV → St → Option (Slot × St)} (e : C.ext f = some g) {l : List AV} {s s' : St} {v : Slot} (h : g l s = some (v, s')) : cw (.f f) l s = some (.ret v, s') := by
 rw [cw, Q5]; unfold callR; rw [e]; simp only [h]
theorem Zs (l : List UInt8) : (strAV l).length = l.length := by simp [strAV]
theorem Qc3 (a b : List UInt8) : strAV (a ++ b) = strAV a ++ strAV b := by simp [strAV]
theorem Q4X (l : List UInt8) : ∀ v ∈ strAV l, v.cells.length = 1 := fun v hv => by obtain ⟨b, _, rfl⟩ := List.mem_map.1 hv; rfl
theorem Q6j : ∀ l : List UInt8, bytesAV (strAV l) = some l
 | [] => rfl
 | b :: r => by
   have := Q6j r
   have hb := b.toNat_lt
   simp only [strAV, List.map_cons, bytesAV] at this ⊢
   rw [if_pos ⟨by omega, by omega⟩, this]
   simp
structure BldIs (s : St) (loc : Nat) (bs : List UInt8) (h : List Nat) : Prop where
 bl : isBld QW s loc = true
 cells : ∃ a x, s.locs[loc]? = some (.var [a, x]) ∧ (a = .val .nilp ∨ a = .val (.vp loc 0)) ∧ HeldIs Q9 s x (strAV bs) h ∧ ∀ l, x ≠ .full l
theorem Q80 {s : St} {loc : Nat} {bs : List UInt8} {h : List Nat} (H : BldIs s loc bs h) : ∃ s' x, cw (.f QV) [.vp loc 0] s = some (.ret (.val (.tup [])), s') ∧ s'.locs[loc]? = some (.var [.val (.vp loc 0), x]) ∧ HeldIs Q9 s' x (strAV bs) h ∧ (∀ l, x ≠ .full l) ∧ Moves [loc] h h s s' ∧ isBld QW s' loc = true := by
 obtain ⟨hb, a, x, hl, ha, hx, hk⟩ := H
 have e : C.ext QV = some (extCopyCheck QW) := by kernel_rfl
 rcases ha with rfl | rfl
 ·refine ⟨{ s with locs := s.locs.set loc (.var [.val (.vp loc 0), x]) }, x, Q29 e ?_, ?_, hx.congr rfl, hk, (Moves.refl _ _ s).setLoc (.inl (by simp)) _, hb⟩
  ·simp only [extCopyCheck, hb, cond_true, hl]
  ·exact List.getElem?_set_self (List.getElem?_eq_some_iff.1 hl).1
 ·refine ⟨s, x, Q29 e ?_, hl, hx, hk, .refl _ _ s, hb⟩
  simp only [extCopyCheck, hb, cond_true, hl, Nat.beq_refl]
theorem Q3E {s : St} {loc : Nat} {bs : List UInt8} {h : List Nat} (H : BldIs s loc bs h) (t : List UInt8) (hl : bs.length + t.length < 2^40) :
  ∃ s' h', cw (.f QR) [.vp loc 0, .str t] s = some (.ret (.val (.tup [.int .i64 t.length, .nili])), s') ∧ BldIs s' loc (bs ++ t) h' ∧ Moves [loc] h h' s s' := by
 obtain ⟨s1, x, e1, l1, x1, k1, m1, b1⟩ := Q80 H
 have z1 : (C.ti Q9).size = 1 := by kernel_rfl
 have z2 : (C.ti Q9).bytes = 1 := by kernel_rfl
 obtain ⟨x', s2, h', e2, x2, l2, m2⟩ := x1.append (m := strAV t) (y := .val (.sl (strAV t))) (t := C.ti Q9) rfl (by rw [z1]; exact Q4X bs) (by rw [z1]; exact Q4X t) (by rw [z1]; decide) (by rw [z2, Zs, Zs]; omega) (by rw [Zs, Zs]; omega)
 rw [← Qc3] at x2
 obtain ⟨f1, f2⟩ := Q6J e2 k1
 have l3 : s2.locs[loc]? = some (.var [.val (.vp loc 0), x]) := by rw [l2]; exact l1
 have e3 : appendStr Q9 (C.ti Q9) s1 x (.val (.str t)) = some (x', s2) := by
  unfold appendStr
  simp only [go_sem]
  rcases x1 with ⟨rfl, _⟩ | ⟨rfl, _⟩ | ⟨k, rfl, _⟩
  ·exact e2
  ·exact absurd rfl (k1 _)
  ·exact e2
 have e4 := Zb (t := C.ti Qz) (off := 1) l1
 have e5 : stV s2 (.val (.vp loc 1)) [x'] = some { s2 with locs := s2.locs.set loc (.var [.val (.vp loc 0), x']) } := Q5E l3 (by simp)
 have e6 : ofSlots (C.ti Qz) (List.take (C.ti Qz).size (List.drop 1 [Slot.val (.vp loc 0), x])) = some x := by
  rw [Q5i]; rfl
 rw [e6] at e4
 refine ⟨{ s2 with locs := s2.locs.set loc (.var [.val (.vp loc 0), x']) }, h', ?_, ⟨?_, ?_⟩, ?_⟩
 ·rw [Q2O]
  simp only [go_sem, Nat.reduceAdd, e1, e3, e4, e5, x2.cellOk]
 ·have b2 : s2.bl = s1.bl := f2
  unfold isBld at b1 ⊢
  rw [b2]
  exact b1
 ·exact ⟨_, x', List.getElem?_set_self (List.getElem?_eq_some_iff.1 l3).1, .inr rfl, x2.congr rfl, f1⟩
 ·exact (m1.trans (m2.wider (by simp))).setLoc (.inl (by simp)) _
theorem Q9r {s : St} {loc : Nat} {bs : List UInt8} {h : List Nat} (H : BldIs s loc bs h) (b : UInt8) (hl : bs.length + 1 < 2^40) :
  ∃ s' h', cw (.f Zo) [.vp loc 0, .int .u8 b.toNat] s = some (.ret (.val .nili), s') ∧ BldIs s' loc (bs ++ [b]) h' ∧ Moves [loc] h h' s s' := by
 obtain ⟨s1, x, e1, l1, x1, k1, m1, b1⟩ := Q80 H
 have z1 : (C.ti Q9).size = 1 := by kernel_rfl
 have z2 : (C.ti Q9).bytes = 1 := by kernel_rfl
 obtain ⟨x', s2, h', e2, x2, l2, m2⟩ := x1.append (m := [.int .u8 b.toNat]) (y := .full [.int .u8 b.toNat]) (t := C.ti Q9) rfl (by rw [z1]; exact Q4X bs) (by rw [z1]; exact Q4X [b]) (by rw [z1]; decide) (by rw [z2, Zs]; simp; omega) (by rw [Zs]; simp; omega)
 have x3 : HeldIs Q9 s2 x' (strAV (bs ++ [b])) h' := by rw [Qc3]; exact x2
 obtain ⟨f1, f2⟩ := Q6J e2 k1
 have l3 : s2.locs[loc]? = some (.var [.val (.vp loc 0), x]) := by rw [l2]; exact l1
 have e4 := Zb (t := C.ti Qz) (off := 1) l1
 have e5 : stV s2 (.val (.vp loc 1)) [x'] = some { s2 with locs := s2.locs.set loc (.var [.val (.vp loc 0), x']) } := Q5E l3 (by simp)
 have e6 : ofSlots (C.ti Qz) (List.take (C.ti Qz).size (List.drop 1 [Slot.val (.vp loc 0), x])) = some x := by
  rw [Q5i]; rfl
 rw [e6] at e4
 refine ⟨{ s2 with locs := s2.locs.set loc (.var [.val (.vp loc 0), x']) }, h', ?_, ⟨?_, ?_⟩, ?_⟩
 ·rw [Q34]
  simp only [go_sem, Nat.reduceAdd, e1, e2, e4, e5, x2.cellOk]
 ·have b2 : s2.bl = s1.bl := f2
  unfold isBld at b1 ⊢
  rw [b2]
  exact b1
 ·exact ⟨_, x', List.getElem?_set_self (List.getElem?_eq_some_iff.1 l3).1, .inr rfl, x3.congr rfl, f1⟩
 ·exact (m1.trans (m2.wider (by simp))).setLoc (.inl (by simp)) _
theorem Qdd {s : St} {loc : Nat} {bs : List UInt8} {h : List Nat} (H : BldIs s loc bs h) :
  ∃ s', cw (.f ZT) [.vp loc 0] s = some (.ret (.val (.str bs)), s') ∧ Moves [] h h s s' := by
 obtain ⟨hb, a, x, hl, ha, hx, hk⟩ := H
 have e : C.ext ZT = some (extBString Q9) := by kernel_rfl
 rcases hx with ⟨rfl, h1, rfl⟩ | ⟨rfl, _⟩ | ⟨k, rfl, rfl, h3, h4⟩
 ·have : bs = [] := by simpa [strAV] using h1
  subst this
  refine ⟨s, Q29 e ?_, .refl _ _ s⟩
  simp only [extBString, hl]
 ·exact absurd rfl (hk _)
 ·refine ⟨{ s with toks := s.toks.set k (bs.length + 1) }, Q29 e ?_, ⟨by simp, fun j hj hn => ?_, fun _ h => .inl h, Nat.le_refl _, fun _ _ _ => rfl⟩⟩
  ·have hne : bs.isEmpty = false := by cases bs with | nil => exact absurd rfl h4 | cons b r => rfl
   rw [Zs] at h3
   simp only [extBString, hl, Q6j, hne, Nat.beq_refl, Bool.not_true, Bool.or_self, cond_false, Zs, h3, if_true]
  ·simp only [List.mem_singleton] at hn
   exact List.getElem?_set_ne (Ne.symm hn)
end Go.Proofs.YtobelgghegmhhaaGreatDoor
namespace Go.Am
open Go
def glueL : List Str := [[40], [126], [33]]
def glueR : List Str := [[41], [44], [59]]
def sepB (p : Option Str) (s : Str) : Bool := match p with
 | none => false
 | some q => !hasL glueL q && !hasL glueR s
def textGo : Option Str → List Str → Str
 | _, [] => []
 | p, s :: r => (bif sepB p s then 32 :: s else s) ++ textGo (some s) r
def textB (l : List Str) : Str := textGo none l
def tokSum (l : List Str) : Nat := (l.map fun s => s.length + 1).sum
theorem Q5e (s : Str) (l : List Str) : tokSum (s :: l) = s.length + 1 + tokSum l := by simp [tokSum]
theorem Qag : ∀ l : List Str, l.length ≤ tokSum l
 | [] => by simp
 | s :: l => by have := Qag l; rw [Q5e, List.length_cons]; omega
def joinT (sign : Str) : List (List Str) → Bool → List Str
 | [], _ => []
 | l :: r, fst => (bif fst then l else sign :: l) ++ joinT sign r false
theorem Q3e (sign : Str) : ∀ (L : List (List Str)) (f : Bool), (joinT sign L f).length ≤ (L.map (·.length)).sum + L.length
 | [], _ => by simp [joinT]
 | l :: r, f => by
   have := Q3e sign r false
   cases f <;> simp [joinT] <;> omega
def letT (n : Int) : Str := UInt8.ofNat (97 + n % 26).toNat :: (bif decide (n > 25) then Go.Lib.itoa (n / 26) else [])
def parT (b : Bool) (l : List Str) : List Str := bif b then [40] :: (l ++ [[41]]) else l
mutual
def typT : Ty → Int → List Str
 | .mk k n nm ags _, lv =>
   bif decide (k = 1) then [39 :: letT n]
   else bif decide (nm = [45, 62]) then parT (decide (0 < lv)) ((typTs ags 1).getD 0 [] ++ [[45, 62]] ++ (typTs ags 0).getD 1 [])
   else bif decide (nm = [42]) then parT (decide (1 < lv)) (joinT [42] (typTs ags 2) true)
   else bif decide (ags.length = 0) then [nm]
   else bif decide (ags.length = 1) then (typTs ags 2).getD 0 [] ++ [nm]
   else [40] :: (joinT [44] (typTs ags 0) true ++ [[41]]) ++ [nm]
def typTs : List Ty → Int → List (List Str)
 | [], _ => []
 | t :: l, lv => typT t lv :: typTs l lv
end
theorem Q4x : ∀ (l : List Ty) (lv : Int), typTs l lv = l.map fun t => typT t lv
 | [], _ => rfl
 | t :: l, lv => by simp only [typTs, List.map_cons, Q4x l lv]
theorem Qe2 (b : Bool) (l : List Str) : (parT b l).length ≤ l.length + 2 := by cases b <;> simp [parT]
theorem Qdw : ∀ (L : List (List Str)) (i : Nat), (L.getD i []).length ≤ (L.map (·.length)).sum
 | [], i => by simp
 | l :: L, 0 => by simp
 | l :: L, i + 1 => by have := Qdw L i; simp at this ⊢; omega
mutual
theorem Q1w : ∀ (t : Ty) (lv : Int), (typT t lv).length + 1 ≤ 6 * t.size
 | .mk k n nm ags b, lv => by
   have h0 := Q2j ags 0
   have h1 := Q2j ags 1
   have h2 := Q2j ags 2
   simp only [typT, Ty.size]
   cases decide (k = 1) with
   | true => simp; omega
   | false =>
     cases decide (nm = [45, 62]) with
     | true =>
       have g := Qif ags
       have := Qe2 (decide (0 < lv)) ((typTs ags 1).getD 0 [] ++ [[45, 62]] ++ (typTs ags 0).getD 1 [])
       simp only [List.length_append, List.length_singleton, cond_true, cond_false] at this ⊢
       omega
     | false =>
       cases decide (nm = [42]) with
       | true =>
         have := Qe2 (decide (1 < lv)) (joinT [42] (typTs ags 2) true)
         have := Q3e [42] (typTs ags 2) true
         simp only [cond_true, cond_false]
         omega
       | false =>
         cases decide (ags.length = 0) with
         | true => simp; omega
         | false =>
           cases decide (ags.length = 1) with
           | true =>
             have := Qdw (typTs ags 2) 0
             simp only [List.length_append, List.length_singleton, cond_true, cond_false]
             omega
           | false =>
             have := Q3e [44] (typTs ags 0) true
             simp only [List.length_append, List.length_cons, List.length_nil, cond_true, cond_false]
             omega
theorem Q2j : ∀ (l : List Ty) (lv : Int), ((typTs l lv).map (·.length)).sum + (typTs l lv).length ≤ 6 * Ty.sizes l
 | [], lv => by simp [typTs, Ty.sizes]
 | t :: l, lv => by
   have h1 := Q1w t lv
   have h2 := Q2j l lv
   simp only [typTs, List.map_cons, List.sum_cons, List.length_cons, Ty.sizes]
   omega
theorem Qif : ∀ (l : List Ty), ((typTs l 1).getD 0 []).length + ((typTs l 0).getD 1 []).length ≤ 6 * Ty.sizes l
 | [] => by simp [typTs]
 | [t] => by have := Q1w t 1; simp [typTs, Ty.sizes]; omega
 | t :: u :: l => by have := Q1w t 1; have := Q1w u 0; simp [typTs, Ty.sizes]; omega
end
def tokB (nm : Str) : Bool := decide ((lxScan nm).2.1 = 0) && (decide ((lxScan nm).1.length = 1) && (decide (((lxScan nm).1.headD default).kind = 2) && decide (((lxScan nm).1.headD default).text = nm)))
def tellN (nm : Str) (len : Nat) : Bool :=
 bif decide (nm = [105, 110, 116]) || (decide (nm = [98, 111, 111, 108]) || (decide (nm = [117, 110, 105, 116]) || decide (nm = [101, 120, 110]))) then decide (len = 0)
 else bif decide (nm = [114, 101, 102]) then decide (len = 1)
 else bif decide (nm = [45, 62]) then decide (len = 2)
 else bif decide (nm = [42]) then decide (2 ≤ len) && decide (len ≤ 8)
 else tokB nm && decide (len ≤ 8)
def tellB (t : Ty) : Bool :=
 bif decide (t.kind = 1) then decide (0 ≤ t.n) && (decide (t.n ≤ 1000) && (decide (t.name = []) && decide (t.args.length = 0)))
 else bif !decide (t.kind = 2) || !decide (t.n = 0) then false else tellN t.name t.args.length
def toldB (t : Ty) : Bool := decide (t.size ≤ 256) && allTy tellB t
def typeT (t : Ty) : Str := bif toldB t then textB (typT t 0) else []
end Go.Am