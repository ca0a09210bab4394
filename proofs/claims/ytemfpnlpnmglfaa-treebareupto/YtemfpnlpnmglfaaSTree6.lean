/- The tree layer: ranging over a tree's nodes; counting them, the first that is wrong. -/
import Derived.Test.YtemfpnlpnmglfaaSTree3
import Derived.Test.YtemfpnlpnmglfaaSTree4
import Derived.Test.YtemfpnlpnmglfaaSTree5
set_option linter.unusedVariables false
set_option linter.unusedSimpArgs false
namespace Go.Am
open Go

/-- a state in which a shared variable stands at L's end -/
def lay0 (L : List Obj) (cs : List Slot) (g : List Obj) (T : List Nat) : St := ⟨L ++ (.var cs :: g), T⟩
/-- .. and a loop further on -/
def lay (L : List Obj) (cs : List Slot) (g : List Obj) (o : Obj) (a : List Obj) (T : List Nat) : St := ⟨L ++ (.var cs :: (g ++ (o :: a))), T⟩
def reL (st : LSt) (p : Option AExit) : Obj → Obj
  | .loop _ _ f e ps a b => .loop st p f e ps a b
  | o => o
def isReady : Obj → Bool
  | .loop .ready none _ _ _ _ _ => true
  | _ => false

theorem isReady_of {o : Obj} (h : isReady o = true) : ∃ f e ps a b, o = .loop .ready none f e ps a b := by
  cases o with
  | loop st p f e ps a b => cases st <;> cases p <;> first | exact ⟨f, e, ps, a, b, rfl⟩ | cases h
  | _ => cases h

section
variable (L : List Obj) (cs cs' : List Slot) (g a : List Obj) (o : Obj) (T : List Nat) (t : TI) (p : Option AExit) (st : LSt)
theorem lay_eq : lay L cs g o a T = lay0 L cs (g ++ o :: a) T := rfl
@[go_sem] theorem ldV_lay0 : ldV t false (lay0 L cs g T) (.val (.vp L.length 0)) = ofSlots t (cs.take t.size) := by
  simp [ldV, lay0]
@[go_sem] theorem ldV_lay : ldV t false (lay L cs g o a T) (.val (.vp L.length 0)) = ofSlots t (cs.take t.size) := ldV_lay0 ..
variable {cs cs'} in
@[go_sem] theorem stV_lay0 (h : cs'.length = cs.length) : stV (lay0 L cs g T) (.val (.vp L.length 0)) cs' = some (lay0 L cs' g T) := by
  simp [stV, lay0, putAt, h]
variable {cs cs'} in
@[go_sem] theorem stV_lay (h : cs'.length = cs.length) : stV (lay L cs g o a T) (.val (.vp L.length 0)) cs' = some (lay L cs' g o a T) := stV_lay0 _ _ _ h
theorem lay_at : (lay L cs g o a T).locs[L.length + 1 + g.length]? = some o := by
  simp only [lay]
  rw [List.getElem?_append_right (by omega), show L.length + 1 + g.length - L.length = g.length + 1 by omega, List.getElem?_cons_succ, List.getElem?_append_right (by omega)]
  simp
theorem lay_set (o' : Obj) : (lay L cs g o a T).locs.set (L.length + 1 + g.length) o' = L ++ (.var cs :: (g ++ (o' :: a))) := by
  simp only [lay]
  rw [List.set_append_right _ _ (by omega), show L.length + 1 + g.length - L.length = g.length + 1 by omega, List.set_cons_succ, List.set_append_right _ _ (by omega)]
  simp
variable {o} in
@[go_sem] theorem beginL_lay (h : isReady o = true) : beginL (L.length + 1 + g.length) (lay L cs g o a T) = some (lay L cs g (reL .busy none o) a T) := by
  obtain ⟨f, e, ps, x, y, rfl⟩ := isReady_of h
  unfold beginL
  rw [lay_at]
  simp only [lay_set]; rfl
variable {o} in
theorem setLoop_lay (h : isReady o = true) (q : LSt) (r : Option AExit) : setLoop (L.length + 1 + g.length) q r (lay L cs g (reL st p o) a T) = some (lay L cs g (reL q r o) a T) := by
  obtain ⟨f, e, ps, x, y, rfl⟩ := isReady_of h
  unfold setLoop
  rw [lay_at]
  simp only [reL, lay_set]; rfl
variable {o} in
theorem reL_ready (h : isReady o = true) : reL .ready none o = o := by
  obtain ⟨f, e, ps, x, y, rfl⟩ := isReady_of h
  rfl
variable {o} in
theorem endX_lay (h : isReady o = true) (hs : st ≠ .busy) (kn kr : St → Res) (ke : Nat → St → Res) : endX (L.length + 1 + g.length) (lay L cs g (reL st p o) a T) kn kr ke = pendX p kn kr ke (lay L cs g (reL .exhausted p o) a T) := by
  have e1 := setLoop_lay L cs g a T p st h .exhausted p
  obtain ⟨f, e, ps, x, y, rfl⟩ := isReady_of h
  simp only [reL] at e1 ⊢
  unfold endX
  rw [lay_at]
  cases st <;> first | (exact absurd rfl hs) | (simp only [e1]; rfl)
theorem lay_len : (lay0 L cs g T).locs.length = L.length + 1 + g.length := by simp [lay0]; omega
theorem lay_add : (lay0 L cs g T).addLoc o = lay L cs g o [] T := by simp [lay0, lay, St.addLoc]
end
theorem addVar (s : St) (cs : List Slot) : s.addLoc (.var cs) = lay0 s.locs cs [] s.toks := rfl
theorem Grew.lay0 {s : St} (cs : List Slot) (g : List Obj) (b : List Nat) : Grew s (lay0 s.locs cs g (s.toks ++ b)) := ⟨⟨_, rfl⟩, ⟨b, rfl⟩⟩
theorem Grew.lay {s : St} (cs : List Slot) (g : List Obj) (o : Obj) (a : List Obj) (b : List Nat) : Grew s (lay s.locs cs g o a (s.toks ++ b)) := ⟨⟨_, rfl⟩, ⟨b, rfl⟩⟩
theorem Grew.layE {s : St} (cs : List Slot) (g : List Obj) (o : Obj) (a : List Obj) : Grew s (Am.lay s.locs cs g o a s.toks) := ⟨⟨_, rfl⟩, ⟨[], by simp [Am.lay]⟩⟩
theorem Grew.of_lay0 {L : List Obj} {cs : List Slot} {T : List Nat} {s : St} (h : Grew (Am.lay0 L cs [] T) s) : ∃ g b, s = Am.lay0 L cs g (T ++ b) := by
  obtain ⟨⟨a, ha⟩, b, hb⟩ := h
  refine ⟨a, b, ?_⟩
  obtain ⟨l, t⟩ := s
  simp only [Am.lay0] at ha hb ⊢
  rw [ha, hb]; simp

end Go.Am

namespace Go.Proofs.Ytemfpnlpnmglfaa
open Go Go.Am
set_option maxRecDepth 4000

/-! ### counting -/

def cstep (most : Int) (n : TNode) (k : Int) : Int × Bool := (bif n.isNode then IntKind.i64.wrap (k + 1) else k, !decide ((bif n.isNode then IntKind.i64.wrap (k + 1) else k) ≥ most))

theorem walk_count (most : Int) : ∀ (l : List TNode) (n : Nat), (n : Int) < most → n + l.length < 2^62 → walk (cstep most) l n = (if ((n + countN l : Nat) : Int) < most then (((n + countN l : Nat) : Int), true) else (most, false))
  | [], n, h, _ => by simp [walk, countN, h]
  | u :: l, n, h, hb => by
    simp only [List.length_cons] at hb
    have hw : IntKind.i64.wrap ((n : Int) + 1) = ((n + 1 : Nat) : Int) := by rw [wrap64 (by omega) (by omega)]; rfl
    simp only [walk, cstep]
    cases hu : u.isNode
    · have e : countN (u :: l) = countN l := by simp [countN, hu]
      have e2 : (!decide ((n : Int) ≥ most)) = true := by simpa using h
      simp only [cond_false, e2, cond_true, e]
      exact walk_count most l n h (by omega)
    · have e : countN (u :: l) = countN l + 1 := by simp [countN, hu]
      simp only [cond_true, hw, e]
      by_cases h2 : ((n + 1 : Nat) : Int) < most
      · have e2 : (!decide (((n + 1 : Nat) : Int) ≥ most)) = true := by simpa using h2
        rw [e2, cond_true, walk_count most l (n + 1) h2 (by omega), show n + 1 + countN l = n + (countN l + 1) by omega]
      · have e2 : (!decide (((n + 1 : Nat) : Int) ≥ most)) = false := by simpa using h2
        rw [e2, cond_false, if_neg (by omega)]
        congr 1; omega

def rstep (n : TNode) (b : TBad) : TBad × Bool := bif decide (n.bad.kind = 0) then (b, true) else (n.bad, false)

theorem walk_right : ∀ (l : List TNode) (b : TBad), walk rstep l b = bif l.all (fun n => decide (n.bad.kind = 0)) then (b, true) else (firstBad l, false)
  | [], b => rfl
  | u :: l, b => by
    simp only [walk, rstep, List.all_cons, firstBad]
    cases hu : decide (u.bad.kind = 0)
    · rfl
    · simp only [cond_true, Bool.true_and]
      exact walk_right l b
theorem firstBad_none : ∀ l : List TNode, l.all (fun n => decide (n.bad.kind = 0)) = true → firstBad l = .zero
  | [], _ => rfl
  | u :: l, h => by
    rw [List.all_cons, Bool.and_eq_true] at h
    rw [firstBad, h.1, cond_true]
    exact firstBad_none l h.2

theorem thing_box (nd : TNode) (r : List AV) : boxCells (C.ti T_thing) (.val (nd.thing r)) = some ((nd.thing r).cells.map .val) := by cases nd <;> simp only [go_sem, Nat.reduceAdd, Nat.reduceLeDiff, Nat.reduceSub, Nat.reduceMul, Nat.reduceEqDiff, Int.reduceEq, Int.reduceLT, Int.reduceLE, Int.reduceAdd, Int.reduceSub, Int.reduceNeg, Int.reduceGT, Int.reduceGE, Int.reduceNe, ne_eq, not_false_eq_true, TNode.thing]
theorem thing_put (nd : TNode) (r : List AV) (a b c d e f g h : Slot) : putAt [a, b, c, d, e, f, g, h] 0 ((nd.thing r).cells.map .val) = some ((nd.thing r).cells.map .val) := by cases nd <;> rfl
theorem thing_take (nd : TNode) (r : List AV) : aggO (C.ti T_thing) (avs (List.take 8 ((nd.thing r).cells.map .val))) = some (.val (nd.thing r)) := by cases nd <;> kernel_rfl

/-- a sequence that tells these nodes in order -/
structure SeqOK (h : AV) (nodes : List TNode) : Prop where
  ok : ∃ g l, h = .fn g l ∧ (C.ext g).isSome = false ∧ ∀ (σ : Type) (step : TNode → σ → σ × Bool) (R : σ × Bool → St → Prop) (P : TNode → Prop) (loc : Nat), YOK step R P loc → (∀ n ∈ nodes, P n) → ∀ st s, R (st, true) s →
    ∃ v s', cw (.f g) (.yld loc :: l) s = some (.ret v, s') ∧ R (walk step nodes st) s'

theorem SeqOK.range {h : AV} {nodes : List TNode} (H : SeqOK h nodes) {σ : Type} {step : TNode → σ → σ × Bool} {R : σ × Bool → St → Prop} {P : TNode → Prop} {loc : Nat} (hY : YOK step R P loc) (hP : ∀ n ∈ nodes, P n) {st : σ} {s : St} (hR : R (st, true) s) (k : St → Res) :
    ∃ s', rangeC C cw (.val h) loc s k = k s' ∧ R (walk step nodes st) s' := by
  obtain ⟨g, l, rfl, he, H⟩ := H.ok
  obtain ⟨v, s', e, g'⟩ := H σ step R P loc hY hP st s hR
  refine ⟨s', ?_, g'⟩
  unfold rangeC
  have : tgtV (.val (.fn g l)) [] = some (.f g, l) := rfl
  rw [this]
  simp only [he, cond_false, e]
  rfl

theorem tree_program_spec (l : List Dec) (nl : Bool) (s : St) (h : Dec.sizes l < 2^40) : ∃ q, cw (.f F_tree_program) [encS nl (l.map Dec.enc)] s = some (.ret (.val q), s) ∧ SeqOK q (nodesDecs false l) := by
  refine ⟨.fn F_tree_program_1 [.cp [encS nl (l.map Dec.enc)]], ?_, ⟨_, _, rfl, by kernel_rfl, fun σ step R P loc hY hP st s hR => ?_⟩⟩
  · rw [tree_program_eq]; simp only [go_sem, Nat.reduceAdd, Nat.reduceLeDiff, Nat.reduceSub, Nat.reduceMul, Nat.reduceEqDiff, Int.reduceEq, Int.reduceLT, Int.reduceLE, Int.reduceAdd, Int.reduceSub, Int.reduceNeg, Int.reduceGT, Int.reduceGE, Int.reduceNe, ne_eq, not_false_eq_true]; rfl
  · obtain ⟨s', e, g⟩ := (walker_all hY (Dec.sizes l)).2.2 l (Nat.le_refl _) h (encS nl (l.map Dec.enc)) false (by simp only [go_sem, Nat.reduceAdd, Nat.reduceLeDiff, Nat.reduceSub, Nat.reduceMul, Nat.reduceEqDiff, Int.reduceEq, Int.reduceLT, Int.reduceLE, Int.reduceAdd, Int.reduceSub, Int.reduceNeg, Int.reduceGT, Int.reduceGE, Int.reduceNe, ne_eq, not_false_eq_true]) hP st s hR
    rw [tree_program_1_eq]; simp only [go_sem, Nat.reduceAdd, Nat.reduceLeDiff, Nat.reduceSub, Nat.reduceMul, Nat.reduceEqDiff, Int.reduceEq, Int.reduceLT, Int.reduceLE, Int.reduceAdd, Int.reduceSub, Int.reduceNeg, Int.reduceGT, Int.reduceGE, Int.reduceNe, ne_eq, not_false_eq_true, e]
    exact ⟨_, s', rfl, g⟩

theorem tree_expression_spec (t : Exp) (s : St) (h : t.size < 2^40) : ∃ q, cw (.f F_tree_expression) [t.enc] s = some (.ret (.val q), s) ∧ SeqOK q (nodesExp t) := by
  refine ⟨.fn F_tree_expression_1 [.cp t.cells], ?_, ⟨_, _, rfl, by kernel_rfl, fun σ step R P loc hY hP st s hR => ?_⟩⟩
  · rw [tree_expression_eq]; simp only [go_sem, Nat.reduceAdd, Nat.reduceLeDiff, Nat.reduceSub, Nat.reduceMul, Nat.reduceEqDiff, Int.reduceEq, Int.reduceLT, Int.reduceLE, Int.reduceAdd, Int.reduceSub, Int.reduceNeg, Int.reduceGT, Int.reduceGE, Int.reduceNe, ne_eq, not_false_eq_true]; rfl
  · obtain ⟨s', e, g⟩ := (walker_all hY t.size).1 t (Nat.le_refl _) h [] hP st s hR
    rw [List.append_nil] at e
    rw [tree_expression_1_eq]; simp only [go_sem, Nat.reduceAdd, Nat.reduceLeDiff, Nat.reduceSub, Nat.reduceMul, Nat.reduceEqDiff, Int.reduceEq, Int.reduceLT, Int.reduceLE, Int.reduceAdd, Int.reduceSub, Int.reduceNeg, Int.reduceGT, Int.reduceGE, Int.reduceNe, ne_eq, not_false_eq_true, e]
    exact ⟨_, s', rfl, g⟩

theorem tree_pattern_spec (t : Pat) (s : St) (h : t.size < 2^40) : ∃ q, cw (.f F_tree_pattern) [t.enc] s = some (.ret (.val q), s) ∧ SeqOK q (nodesPat t) := by
  refine ⟨.fn F_tree_pattern_1 [.cp t.cells], ?_, ⟨_, _, rfl, by kernel_rfl, fun σ step R P loc hY hP st s hR => ?_⟩⟩
  · rw [tree_pattern_eq]; simp only [go_sem, Nat.reduceAdd, Nat.reduceLeDiff, Nat.reduceSub, Nat.reduceMul, Nat.reduceEqDiff, Int.reduceEq, Int.reduceLT, Int.reduceLE, Int.reduceAdd, Int.reduceSub, Int.reduceNeg, Int.reduceGT, Int.reduceGE, Int.reduceNe, ne_eq, not_false_eq_true]; rfl
  · obtain ⟨s', e, g⟩ := walker_pats_spec hY t.size t [] (Nat.le_refl _) h hP st s hR
    rw [List.append_nil] at e
    rw [tree_pattern_1_eq]; simp only [go_sem, Nat.reduceAdd, Nat.reduceLeDiff, Nat.reduceSub, Nat.reduceMul, Nat.reduceEqDiff, Int.reduceEq, Int.reduceLT, Int.reduceLE, Int.reduceAdd, Int.reduceSub, Int.reduceNeg, Int.reduceGT, Int.reduceGE, Int.reduceNe, ne_eq, not_false_eq_true, e]
    exact ⟨_, s', rfl, g⟩

theorem tree_count_spec {h : AV} {nodes : List TNode} (H : SeqOK h nodes) (most : Nat) (hm : 0 < most) (hl : nodes.length < 2^61) (s : St) : Ret (cw (.f F_tree_count) [h, .int .i64 most] s) s (.int .i64 (min (countN nodes) most : Nat)) := by
  let o := tree_count_r0 (.val (.cp [.int .i64 most])) (.val (.vp s.locs.length 0))
  have ho : isReady o = true := rfl
  let R : Int × Bool → St → Prop := fun p s1 => s1 = lay s.locs [.val (.int .i64 p.1)] [] (bif p.2 then o else reL .done (some (.exit 0)) o) [] s.toks
  have hY : YOK (cstep most) R (fun _ => True) (s.locs.length + 1) := by
    rintro nd r st s1 - rfl
    simp only [cond_true]
    have b0 := lay_at s.locs [.val (.int .i64 st)] [] [] o s.toks
    rw [List.length_nil, Nat.add_zero] at b0
    rw [cw, callw_yld b0]
    rw [tree_count_r0_eq]
    have b1 := beginL_lay s.locs [.val (.int .i64 st)] [] [] s.toks ho
    have b2 : ∀ n st p q r, setLoop (s.locs.length + 1) q r (lay s.locs [.val (.int .i64 n)] [] (reL st p o) [] s.toks) = _ := fun n st p q r => setLoop_lay s.locs [.val (.int .i64 n)] [] [] s.toks p st ho q r
    simp only [List.length_nil, Nat.add_zero] at b1
    simp only [go_sem, Nat.reduceAdd, Nat.reduceLeDiff, Nat.reduceSub, Nat.reduceMul, Nat.reduceEqDiff, Int.reduceEq, Int.reduceLT, Int.reduceLE, Int.reduceAdd, Int.reduceSub, Int.reduceNeg, Int.reduceGT, Int.reduceGE, Int.reduceNe, ne_eq, not_false_eq_true, thing_box, thing_put, thing_take, b1]
    simp only [go_sem, Nat.reduceAdd, Nat.reduceLeDiff, Nat.reduceSub, Nat.reduceMul, Nat.reduceEqDiff, Int.reduceEq, Int.reduceLT, Int.reduceLE, Int.reduceAdd, Int.reduceSub, Int.reduceNeg, Int.reduceGT, Int.reduceGE, Int.reduceNe, ne_eq, not_false_eq_true, avs_cons (show (Slot.val (nd.thing r)).av = some (nd.thing r) from rfl), tree_thing_node_spec]
    have b3 : ∀ n st p v', stV (lay s.locs [.val (.int .i64 n)] [] (reL st p o) [] s.toks) (.val (.vp s.locs.length 0)) [.val v'] = _ := fun n st p v' => stV_lay s.locs [] [] (reL st p o) s.toks rfl
    cases hn : nd.isNode
    · simp only [go_sem, Nat.reduceAdd, Nat.reduceLeDiff, Nat.reduceSub, Nat.reduceMul, Nat.reduceEqDiff, Int.reduceEq, Int.reduceLT, Int.reduceLE, Int.reduceAdd, Int.reduceSub, Int.reduceNeg, Int.reduceGT, Int.reduceGE, Int.reduceNe, ne_eq, not_false_eq_true, b2, cstep, hn]
      cases hd : decide (st ≥ (most : Int))
      · simp only [go_sem, Nat.reduceAdd, Nat.reduceLeDiff, Nat.reduceSub, Nat.reduceMul, Nat.reduceEqDiff, Int.reduceEq, Int.reduceLT, Int.reduceLE, Int.reduceAdd, Int.reduceSub, Int.reduceNeg, Int.reduceGT, Int.reduceGE, Int.reduceNe, ne_eq, not_false_eq_true]; exact ⟨_, rfl, by simp only [R, Bool.not_false, cond_true, reL_ready ho]⟩
      · simp only [go_sem, Nat.reduceAdd, Nat.reduceLeDiff, Nat.reduceSub, Nat.reduceMul, Nat.reduceEqDiff, Int.reduceEq, Int.reduceLT, Int.reduceLE, Int.reduceAdd, Int.reduceSub, Int.reduceNeg, Int.reduceGT, Int.reduceGE, Int.reduceNe, ne_eq, not_false_eq_true]; exact ⟨_, rfl, by simp only [R, Bool.not_true, cond_false]⟩
    · simp only [go_sem, Nat.reduceAdd, Nat.reduceLeDiff, Nat.reduceSub, Nat.reduceMul, Nat.reduceEqDiff, Int.reduceEq, Int.reduceLT, Int.reduceLE, Int.reduceAdd, Int.reduceSub, Int.reduceNeg, Int.reduceGT, Int.reduceGE, Int.reduceNe, ne_eq, not_false_eq_true, b2, b3, cstep, hn]
      cases hd : decide (IntKind.i64.wrap (st + 1) ≥ (most : Int))
      · simp only [go_sem, Nat.reduceAdd, Nat.reduceLeDiff, Nat.reduceSub, Nat.reduceMul, Nat.reduceEqDiff, Int.reduceEq, Int.reduceLT, Int.reduceLE, Int.reduceAdd, Int.reduceSub, Int.reduceNeg, Int.reduceGT, Int.reduceGE, Int.reduceNe, ne_eq, not_false_eq_true]; exact ⟨_, rfl, by simp only [R, Bool.not_false, cond_true, reL_ready ho]⟩
      · simp only [go_sem, Nat.reduceAdd, Nat.reduceLeDiff, Nat.reduceSub, Nat.reduceMul, Nat.reduceEqDiff, Int.reduceEq, Int.reduceLT, Int.reduceLE, Int.reduceAdd, Int.reduceSub, Int.reduceNeg, Int.reduceGT, Int.reduceGE, Int.reduceNe, ne_eq, not_false_eq_true]; exact ⟨_, rfl, by simp only [R, Bool.not_true, cond_false]⟩
  rw [tree_count_eq]
  simp only [go_sem, Nat.reduceAdd, Nat.reduceLeDiff, Nat.reduceSub, Nat.reduceMul, Nat.reduceEqDiff, Int.reduceEq, Int.reduceLT, Int.reduceLE, Int.reduceAdd, Int.reduceSub, Int.reduceNeg, Int.reduceGT, Int.reduceGE, Int.reduceNe, ne_eq, not_false_eq_true, addVar, lay_len, lay_add]
  obtain ⟨s', e, g⟩ := H.range hY (fun _ _ => trivial) (st := 0) (s := lay s.locs [.val (.int .i64 0)] [] o [] s.toks) rfl (fun s_10 => endX (s.locs.length + 1) s_10 (fun s_11 => bind1 (ldV (C.ti T_int) false s_11 (.val (.vp s.locs.length 0))) fun v16 => some (.ret v16, s_11)) (fun s_12 => some (.ret (.val (.int .i64 0)), s_12)) (fun j s_13 => bif Nat.beq j 0 then (bind1 (ldV (C.ti T_int) false s_13 (.val (.vp s.locs.length 0))) fun v16_1 => some (.ret v16_1, s_13)) else none))
  refine (congrArg (fun r => Ret r s (.int .i64 (min (countN nodes) most : Nat))) (Eq.trans rfl e)).mpr ?_
  have := walk_count most nodes 0 (by omega) (by omega)
  rw [Nat.zero_add] at this
  rw [show ((0 : Nat) : Int) = 0 from rfl] at this
  rw [this] at g
  have b2 : ∀ n st p, st ≠ .busy → ∀ kn kr ke, endX (s.locs.length + 1) (lay s.locs [.val (.int .i64 n)] [] (reL st p o) [] s.toks) kn kr ke = _ := fun n st p hs kn kr ke => endX_lay s.locs [.val (.int .i64 n)] [] [] s.toks p st ho hs kn kr ke
  subst g
  by_cases hc : (countN nodes : Int) < most
  · rw [if_pos hc]
    simp only [cond_true]
    rw [← reL_ready ho, b2 _ _ _ (by intro h; cases h), show min (countN nodes) most = countN nodes by omega]
    simp only [go_sem, Nat.reduceAdd, Nat.reduceLeDiff, Nat.reduceSub, Nat.reduceMul, Nat.reduceEqDiff, Int.reduceEq, Int.reduceLT, Int.reduceLE, Int.reduceAdd, Int.reduceSub, Int.reduceNeg, Int.reduceGT, Int.reduceGE, Int.reduceNe, ne_eq, not_false_eq_true, pendX]
    exact Ret.mk (.layE _ _ _ _)
  · rw [if_neg hc]
    simp only [cond_false]
    rw [b2 _ _ _ (by intro h; cases h), show min (countN nodes) most = most by omega]
    simp only [go_sem, Nat.reduceAdd, Nat.reduceLeDiff, Nat.reduceSub, Nat.reduceMul, Nat.reduceEqDiff, Int.reduceEq, Int.reduceLT, Int.reduceLE, Int.reduceAdd, Int.reduceSub, Int.reduceNeg, Int.reduceGT, Int.reduceGE, Int.reduceNe, ne_eq, not_false_eq_true, pendX, Nat.beq]
    exact Ret.mk (.layE _ _ _ _)

/-- a function that gives a number -/
def NumOK (d : AV) (n : Int) : Prop := ∃ g l, d = .fn g l ∧ ∀ s, cw (.f g) l s = some (.ret (.val (.int .i64 n)), s)

theorem bad_take (b : TBad) : aggO (C.ti T_Bad) (avs (List.take 3 (b.cells.map .val))) = some (.val b.enc) := by kernel_rfl
theorem bad_ofSlots (b : TBad) : ofSlots (C.ti T_Bad) (List.take (C.ti T_Bad).size (b.cells.map .val)) = some (.val b.enc) := by kernel_rfl

theorem tree_right_spec {h d : AV} {nodes : List TNode} {n : Int} (H : SeqOK h nodes) (HD : NumOK d n) (hl : nodes.length < 2^61) (hn : ∀ nd ∈ nodes, nd.name.length < 2^40) (s : St) : Ret (cw (.f F_tree_right) [h, d] s) s (rightN nodes n).enc := by
  rw [tree_right_eq]
  obtain ⟨s1, e1, g1⟩ := tree_count_spec H 8193 (by decide) hl (s.addLoc (.var (TBad.zero.cells.map .val)))
  obtain ⟨gf, gl, rfl, hd⟩ := HD
  rw [addVar] at e1 g1
  obtain ⟨g, b, rfl⟩ := g1.of_lay0
  have e0 : s.addLoc (.var (List.map .val (C.ti T_Bad).zero)) = lay0 s.locs (TBad.zero.cells.map .val) [] s.toks := rfl
  rw [e0]
  rw [show ((8193 : Nat) : Int) = 8193 from rfl] at e1
  have hT : ∃ c, s.toks ++ b = s.toks ++ c := ⟨b, rfl⟩
  generalize s.toks ++ b = T at *
  have k1 : ∀ v : List AV, v.length = 3 → ∀ r, Ret (some (.ret (.val r), lay0 s.locs (v.map .val) g T)) s r := fun v _ r => by obtain ⟨c, rfl⟩ := hT; exact Ret.mk (.lay0 _ _ _)
  have k2 : ∀ (v : List AV) o a r, Ret (some (.ret (.val r), lay s.locs (v.map .val) g o a T)) s r := fun v o a r => by obtain ⟨c, rfl⟩ := hT; exact Ret.mk (.lay _ _ _ _ _)
  have hst0 : ∀ x y z : AV, stV (lay0 s.locs (TBad.zero.cells.map .val) g T) (.val (.vp s.locs.length 0)) [.val x, .val y, .val z] = some (lay0 s.locs ([x, y, z].map .val) g T) := fun x y z => stV_lay0 _ _ _ rfl
  have hst : ∀ (c : TBad) o x y z, stV (lay s.locs (c.cells.map .val) g o [] T) (.val (.vp s.locs.length 0)) [.val x, .val y, .val z] = some (lay s.locs ([x, y, z].map .val) g o [] T) := fun c o x y z => stV_lay _ _ _ _ _ rfl
  have hb : ∀ x y z : AV, aggO (C.ti T_Bad) (avs (List.take 3 ([x, y, z].map .val))) = some (.val (.agg [x, y, z])) := fun x y z => by kernel_rfl
  simp only [go_sem, Nat.reduceAdd, Nat.reduceLeDiff, Nat.reduceSub, Nat.reduceMul, Nat.reduceEqDiff, Int.reduceEq, Int.reduceLT, Int.reduceLE, Int.reduceAdd, Int.reduceSub, Int.reduceNeg, Int.reduceGT, Int.reduceGE, Int.reduceNe, ne_eq, not_false_eq_true, e1, avs_cons (show (Slot.val h).av = some h from rfl), hd, hst0, hb]
  have hc : decide (((min (countN nodes) 8193 : Nat) : Int) > 8192) = decide (countN nodes > 8192) := by simp only [gt_iff_lt]; congr 1; rw [eq_iff_iff]; omega
  rw [hc]
  unfold rightN
  cases decide (countN nodes > 8192) with
  | true => simp only [go_sem, Nat.reduceAdd, Nat.reduceLeDiff, Nat.reduceSub, Nat.reduceMul, Nat.reduceEqDiff, Int.reduceEq, Int.reduceLT, Int.reduceLE, Int.reduceAdd, Int.reduceSub, Int.reduceNeg, Int.reduceGT, Int.reduceGE, Int.reduceNe, ne_eq, not_false_eq_true]; exact k1 [_, _, _] rfl _
  | false =>
    cases decide (n > 100) with
    | true => simp only [go_sem, Nat.reduceAdd, Nat.reduceLeDiff, Nat.reduceSub, Nat.reduceMul, Nat.reduceEqDiff, Int.reduceEq, Int.reduceLT, Int.reduceLE, Int.reduceAdd, Int.reduceSub, Int.reduceNeg, Int.reduceGT, Int.reduceGE, Int.reduceNe, ne_eq, not_false_eq_true]; exact k1 [_, _, _] rfl _
    | false =>
      simp only [go_sem, Nat.reduceAdd, Nat.reduceLeDiff, Nat.reduceSub, Nat.reduceMul, Nat.reduceEqDiff, Int.reduceEq, Int.reduceLT, Int.reduceLE, Int.reduceAdd, Int.reduceSub, Int.reduceNeg, Int.reduceGT, Int.reduceGE, Int.reduceNe, ne_eq, not_false_eq_true, lay_len, lay_add]
      let o := tree_right_r0 (.val (.vp s.locs.length 0))
      have ho : isReady o = true := rfl
      let R : TBad × Bool → St → Prop := fun p s1 => s1 = lay s.locs (p.1.cells.map .val) g (bif p.2 then o else reL .done (some .ret) o) [] T
      have hY : YOK rstep R (fun nd => nd.name.length < 2^40) (s.locs.length + 1 + g.length) := by
        rintro nd r st s1 hP rfl
        simp only [cond_true]
        rw [cw, callw_yld (lay_at _ _ _ _ _ _), tree_right_r0_eq]
        have b1 := beginL_lay s.locs (st.cells.map .val) g [] T ho
        have b2 : ∀ (c : List AV) st p q r, setLoop (s.locs.length + 1 + g.length) q r (lay s.locs (c.map .val) g (reL st p o) [] T) = _ := fun c st p q r => setLoop_lay s.locs (c.map .val) g [] T p st ho q r
        simp only [go_sem, Nat.reduceAdd, Nat.reduceLeDiff, Nat.reduceSub, Nat.reduceMul, Nat.reduceEqDiff, Int.reduceEq, Int.reduceLT, Int.reduceLE, Int.reduceAdd, Int.reduceSub, Int.reduceNeg, Int.reduceGT, Int.reduceGE, Int.reduceNe, ne_eq, not_false_eq_true, thing_box, thing_put, thing_take, b1]
        simp only [go_sem, Nat.reduceAdd, Nat.reduceLeDiff, Nat.reduceSub, Nat.reduceMul, Nat.reduceEqDiff, Int.reduceEq, Int.reduceLT, Int.reduceLE, Int.reduceAdd, Int.reduceSub, Int.reduceNeg, Int.reduceGT, Int.reduceGE, Int.reduceNe, ne_eq, not_false_eq_true, avs_cons (show (Slot.val (nd.thing r)).av = some (nd.thing r) from rfl), tree_thing_wrong_spec _ _ _ hP]
        unfold rstep
        generalize nd.bad = bd
        obtain ⟨k, a, nm⟩ := bd
        obtain ⟨k0, a0, nm0⟩ := st
        have b3 : ∀ p x y z x' y' z', stV (lay s.locs [.val x', .val y', .val z'] g (reL .busy p o) [] T) (.val (.vp s.locs.length 0)) [.val x, .val y, .val z] = some (lay s.locs ([x, y, z].map .val) g (reL .busy p o) [] T) := fun p x y z x' y' z' => stV_lay _ _ _ _ _ rfl
        have b4 := b2 [.int .i64 k0, .int .i64 a0, .str nm0]
        have b5 := b2 [.int .i64 k, .int .i64 a, .str nm]
        simp only [List.map] at b3 b4 b5
        simp only [go_sem, Nat.reduceAdd, Nat.reduceLeDiff, Nat.reduceSub, Nat.reduceMul, Nat.reduceEqDiff, Int.reduceEq, Int.reduceLT, Int.reduceLE, Int.reduceAdd, Int.reduceSub, Int.reduceNeg, Int.reduceGT, Int.reduceGE, Int.reduceNe, ne_eq, not_false_eq_true, TBad.enc, TBad.cells, b3, b4, b5]
        cases hk : decide (k = 0)
        · simp only [go_sem, Nat.reduceAdd, Nat.reduceLeDiff, Nat.reduceSub, Nat.reduceMul, Nat.reduceEqDiff, Int.reduceEq, Int.reduceLT, Int.reduceLE, Int.reduceAdd, Int.reduceSub, Int.reduceNeg, Int.reduceGT, Int.reduceGE, Int.reduceNe, ne_eq, not_false_eq_true]; exact ⟨_, rfl, by simp only [R, cond_false]; rfl⟩
        · simp only [go_sem, Nat.reduceAdd, Nat.reduceLeDiff, Nat.reduceSub, Nat.reduceMul, Nat.reduceEqDiff, Int.reduceEq, Int.reduceLT, Int.reduceLE, Int.reduceAdd, Int.reduceSub, Int.reduceNeg, Int.reduceGT, Int.reduceGE, Int.reduceNe, ne_eq, not_false_eq_true]; exact ⟨_, rfl, by simp only [R, cond_true, reL_ready ho]; rfl⟩
      obtain ⟨s', e, gR⟩ := H.range hY hn (st := TBad.zero) (s := lay s.locs (TBad.zero.cells.map .val) g o [] T) rfl (fun s_11 =>
 endX (s.locs.length + 1 + g.length) s_11 (fun s_12 =>
 bindS (stV s_12 (.val (.vp s.locs.length 0)) [.val (.int .i64 0), .val (.int .i64 0), .val (.str [])]) fun s_15 =>
 bind1 (ldV (C.ti T_Bad) false s_15 (.val (.vp s.locs.length 0))) fun v => some (.ret v, s_15)) (fun s_13 =>
 bind1 (ldV (C.ti T_Bad) false s_13 (.val (.vp s.locs.length 0))) fun v => some (.ret v, s_13)) (fun j s_14 =>
 bif Nat.beq j 0 then (
 bindS (stV s_14 (.val (.vp s.locs.length 0)) [.val (.int .i64 0), .val (.int .i64 0), .val (.str [])]) fun s_16 =>
 bind1 (ldV (C.ti T_Bad) false s_16 (.val (.vp s.locs.length 0))) fun v => some (.ret v, s_16)) else (
(none : Res))))
      refine (congrArg (fun r => Ret r s (firstBad nodes).enc) e).mpr ?_
      have b2 : ∀ (c : List AV) st p, st ≠ .busy → ∀ kn kr ke, endX (s.locs.length + 1 + g.length) (lay s.locs (c.map .val) g (reL st p o) [] T) kn kr ke = _ := fun c st p hs kn kr ke => endX_lay s.locs (c.map .val) g [] T p st ho hs kn kr ke
      rw [walk_right] at gR
      simp only [R] at gR
      subst gR
      cases ha : nodes.all fun nd => decide (nd.bad.kind = 0)
      · simp only [cond_false]
        rw [b2 _ _ _ (by intro h; cases h)]
        simp only [go_sem, Nat.reduceAdd, Nat.reduceLeDiff, Nat.reduceSub, Nat.reduceMul, Nat.reduceEqDiff, Int.reduceEq, Int.reduceLT, Int.reduceLE, Int.reduceAdd, Int.reduceSub, Int.reduceNeg, Int.reduceGT, Int.reduceGE, Int.reduceNe, ne_eq, not_false_eq_true, pendX, bad_take]
        exact k2 _ _ _ _
      · simp only [cond_true]
        rw [← reL_ready ho, b2 _ _ _ (by intro h; cases h), firstBad_none _ ha]
        simp only [go_sem, Nat.reduceAdd, Nat.reduceLeDiff, Nat.reduceSub, Nat.reduceMul, Nat.reduceEqDiff, Int.reduceEq, Int.reduceLT, Int.reduceLE, Int.reduceAdd, Int.reduceSub, Int.reduceNeg, Int.reduceGT, Int.reduceGE, Int.reduceNe, ne_eq, not_false_eq_true, pendX, hst, hb]
        exact k2 [_, _, _] _ _ _

end Go.Proofs.Ytemfpnlpnmglfaa
