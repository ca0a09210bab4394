/- The tree layer: the names that a pattern binds; what is right; how big. -/
import Derived.Test.YtemfpnlpnmglfaaSTree6
set_option linter.unusedVariables false
set_option linter.unusedSimpArgs false
namespace Go.Am
open Go
def varOf (p : Pat) : List Str := bif decide (p.kind = 2) || decide (p.kind = 6) then [p.name] else []
mutual
def varsPat : Pat → List Str
  | .mk k a s n l b => varOf (.mk k a s n l b) ++ varsPats l
def varsPats : List Pat → List Str
  | [] => []
  | t :: l => varsPat t ++ varsPats l
end
theorem varOf_len (p : Pat) : (varOf p).length ≤ 1 := by unfold varOf; cases decide (p.kind = 2) <;> cases decide (p.kind = 6) <;> simp
mutual
theorem varsPat_len : ∀ t : Pat, (varsPat t).length ≤ t.size
  | .mk k a s n l b => by have h1 := varOf_len (.mk k a s n l b); have h2 := varsPats_len l; simp only [varsPat, Pat.size, List.length_append]; omega
theorem varsPats_len : ∀ l : List Pat, (varsPats l).length ≤ Pat.sizes l
  | [] => Nat.le_refl _
  | t :: l => by have h1 := varsPat_len t; have h2 := varsPats_len l; simp only [varsPats, Pat.sizes, List.length_append]; omega
end

theorem TNode.ok_name {n : TNode} (h : n.ok) : n.name.length < 2^40 := by
  cases n <;> first | exact h | exact h.1

@[go_sem] theorem fnS_val (f : FuncId) (v : AV) : fnS f [.val v] = some (.val (.fn f [v])) := id rfl

theorem AccR.relay {e : TypeId} {s s1 s2 : St} {x : Slot} {l : List AV} (h : AccR e s s1 x l) (ht : s2.toks = s1.toks) (hl : ∃ a, s2.locs = s.locs ++ a) : AccR e s s2 x l := by
  obtain ⟨⟨_, b, hb⟩, h2⟩ := h
  exact ⟨⟨hl, b, by rw [ht, hb]⟩, by rw [ht]; exact h2⟩

theorem appendS_locs {e : TypeId} {t : TI} {s s' : St} {x y x' : Slot} (h : appendS e t s x y = some (x', s')) : s'.locs = s.locs := by
  unfold appendS at h
  split at h
  · split at h <;> cases h
    rfl
  · cases hz : okSz t.size ‹List AV› with
    | false => rw [hz] at h; cases h
    | true =>
      rw [hz] at h
      simp only [cond_true] at h
      split at h
      · revert h
        cases okSz t.size ‹List AV› with
        | false => intro h; cases h
        | true =>
          intro h
          simp only [cond_true] at h
          split at h <;> cases h
          rfl
      · revert h
        cases okSz t.size ‹List AV› with
        | false => intro h; cases h
        | true =>
          intro h
          simp only [cond_true] at h
          split at h <;> cases h
          rfl
      · split at h <;> cases h
        rfl
      · cases h
  · cases h

end Go.Am

namespace Go.Proofs.Ytemfpnlpnmglfaa
open Go Go.Am
set_option maxRecDepth 4000

section
variable (R : Nat → List Str → St → Prop) (loc : Nat)
def YN : Prop := ∀ p r k acc s, R (k + 1) acc s → ∃ s', cw (.y loc) [(TNode.pat p).thing r] s = some (.ret (.val (.bool true)), s') ∧ R k (acc ++ varOf p) s'
def WN (t : Pat) : Prop := ∀ r k acc s, R (k + t.size) acc s → ∃ s', cw (.f F_tree_walker_pats) [wk loc, .cp (t.cells ++ r)] s = some (.ret (.val (.bool true)), s') ∧ R k (acc ++ varsPat t) s'
variable {R} {loc}

theorem walkN_loop (hY : YN R loc) (t : Pat) (r : List AV) (hl : t.kids.length < 2^40) : ∀ (suf pre : List Pat) (k : Nat) (acc : List Str) (s : St) (i : Nat), pre ++ suf = t.kids → i = pre.length → (∀ u ∈ suf, WN R loc u) → R (k + Pat.sizes suf) acc s →
    ∃ s', tree_walker_pats_l0 (.val (.cp (t.cells ++ r))) [.val (.yld loc)] (.val (.int .i64 t.kids.length)) (.val (.int .i64 i)) s = some (.ret (.val (.bool true)), s') ∧ R k (acc ++ varsPats suf) s'
  | [], pre, k, acc, s, i, h, hi, H, hR => by
    subst hi
    rw [tree_walker_pats_l0_eq]; simp only [go_sem, Nat.reduceAdd, Nat.reduceLeDiff, Nat.reduceSub, Nat.reduceMul, Nat.reduceEqDiff, Int.reduceEq, Int.reduceLT, Int.reduceLE, Int.reduceAdd, Int.reduceSub, Int.reduceNeg, Int.reduceGT, Int.reduceGE, Int.reduceNe, ne_eq, not_false_eq_true, end_facts (by simpa using h), varsPats, List.append_nil]
    exact ⟨s, rfl, hR⟩
  | u :: suf, pre, k, acc, s, i, h, hi, H, hR => by
    subst hi
    obtain ⟨f1, f2, f3⟩ := step_facts (x := .val (encS t.kb (t.kids.map Pat.enc))) (list?_encS _ _) h (by omega) (Pat.cells_len u) (by decide)
    obtain ⟨s1, e1, g1⟩ := H u (List.mem_cons_self) [] (k + Pat.sizes suf) acc s (by simp only [Pat.sizes] at hR; rwa [show k + Pat.sizes suf + u.size = k + (u.size + Pat.sizes suf) by omega])
    obtain ⟨s2, e2, g2⟩ := walkN_loop hY t r hl suf (pre ++ [u]) k (acc ++ varsPat u) s1 (pre.length + 1) (by simpa using h) (by simp) (fun w hw => H w (List.mem_cons_of_mem _ hw)) g1
    simp only [varsPats]
    rw [tree_walker_pats_l0_eq, ← List.append_assoc]
    refine ⟨s2, ?_, g2⟩
    rw [← e2]
    simp only [go_sem, Nat.reduceAdd, Nat.reduceLeDiff, Nat.reduceSub, Nat.reduceMul, Nat.reduceEqDiff, Int.reduceEq, Int.reduceLT, Int.reduceLE, Int.reduceAdd, Int.reduceSub, Int.reduceNeg, Int.reduceGT, Int.reduceGE, Int.reduceNe, ne_eq, not_false_eq_true, Pat.cells_eq, f1] at e1 f2 ⊢
    simp only [go_sem, Nat.reduceAdd, Nat.reduceLeDiff, Nat.reduceSub, Nat.reduceMul, Nat.reduceEqDiff, Int.reduceEq, Int.reduceLT, Int.reduceLE, Int.reduceAdd, Int.reduceSub, Int.reduceNeg, Int.reduceGT, Int.reduceGE, Int.reduceNe, ne_eq, not_false_eq_true, f2, e1, f3]

theorem walkN_spec (hY : YN R loc) : ∀ (m : Nat) (t : Pat), t.size ≤ m → t.size < 2^40 → WN R loc t
  | 0, .mk _ _ _ _ _ _, h, _ => by simp only [Pat.size] at h; omega
  | m + 1, .mk k a nm n l nl, h, h' => fun r kk acc s hR => by
    simp only [Pat.size] at h h' hR
    have hl := Pat.len_sizes l
    obtain ⟨s1, e1, g1⟩ := hY (.mk k a nm n l nl) r (kk + Pat.sizes l) acc s (by rwa [show kk + Pat.sizes l + 1 = kk + (Pat.sizes l + 1) by omega])
    obtain ⟨s2, e2, g2⟩ := walkN_loop hY (.mk k a nm n l nl) r (by simp only [Pat.kids]; omega) l [] kk _ s1 0 rfl rfl (fun u hu => by have := Pat.mem_sizes hu; exact walkN_spec hY m u (by omega) (by omega)) g1
    rw [tree_walker_pats_eq]
    simp only [varsPat]
    rw [← List.append_assoc]
    refine ⟨s2, ?_, g2⟩
    rw [← e2]
    simp only [go_sem, Nat.reduceAdd, Nat.reduceLeDiff, Nat.reduceSub, Nat.reduceMul, Nat.reduceEqDiff, Int.reduceEq, Int.reduceLT, Int.reduceLE, Int.reduceAdd, Int.reduceSub, Int.reduceNeg, Int.reduceGT, Int.reduceGE, Int.reduceNe, ne_eq, not_false_eq_true, TNode.thing, Pat.at_] at e1 ⊢
    simp only [go_sem, Nat.reduceAdd, Nat.reduceLeDiff, Nat.reduceSub, Nat.reduceMul, Nat.reduceEqDiff, Int.reduceEq, Int.reduceLT, Int.reduceLE, Int.reduceAdd, Int.reduceSub, Int.reduceNeg, Int.reduceGT, Int.reduceGE, Int.reduceNe, ne_eq, not_false_eq_true, e1, Pat.kids]
    rfl
end

theorem tree_Vars_spec (t : Pat) (s : St) (h : t.size < 2^26) : ∃ x s', cw (.f F_tree_Vars) [t.enc] s = some (.ret x, s') ∧ AccR T_string s s' x ((varsPat t).map .str) := by
  let o := tree_Vars_r0 (.val (.vp s.locs.length 0))
  have ho : isReady o = true := rfl
  let R : Nat → List Str → St → Prop := fun k acc s1 => acc.length + k < 2^26 ∧ ∃ x T, s1 = lay s.locs [x] [] o [] T ∧ AccR T_string s s1 x (acc.map .str)
  have hY : YN R (s.locs.length + 1) := by
    rintro p r k acc s1 ⟨hk, x, T, rfl, hA⟩
    have b0 := lay_at s.locs [x] [] [] o T
    rw [List.length_nil, Nat.add_zero] at b0
    rw [cw, callw_yld b0, tree_Vars_r0_eq]
    have b1 := beginL_lay s.locs [x] [] [] T ho
    have b2 : ∀ x T st p q r, setLoop (s.locs.length + 1) q r (lay s.locs [x] [] (reL st p o) [] T) = _ := fun x T st p q r => setLoop_lay s.locs [x] [] [] T p st ho q r
    have b3 : ∀ x x' T st p, stV (lay s.locs [x] [] (reL st p o) [] T) (.val (.vp s.locs.length 0)) [x'] = _ := fun x x' T st p => stV_lay s.locs [] [] (reL st p o) T rfl
    simp only [List.length_nil, Nat.add_zero] at b1
    simp only [go_sem, Nat.reduceAdd, Nat.reduceLeDiff, Nat.reduceSub, Nat.reduceMul, Nat.reduceEqDiff, Int.reduceEq, Int.reduceLT, Int.reduceLE, Int.reduceAdd, Int.reduceSub, Int.reduceNeg, Int.reduceGT, Int.reduceGE, Int.reduceNe, ne_eq, not_false_eq_true, TNode.thing, b1, b2, Pat.cells_eq]
    unfold varOf
    cases hv : decide (p.kind = 2) || decide (p.kind = 6) with
    | false =>
      simp only [go_sem, Nat.reduceAdd, Nat.reduceLeDiff, Nat.reduceSub, Nat.reduceMul, Nat.reduceEqDiff, Int.reduceEq, Int.reduceLT, Int.reduceLE, Int.reduceAdd, Int.reduceSub, Int.reduceNeg, Int.reduceGT, Int.reduceGE, Int.reduceNe, ne_eq, not_false_eq_true, List.append_nil]
      refine ⟨_, rfl, by omega, x, T, ?_, hA.relay rfl ⟨_, rfl⟩⟩
      rw [reL_ready ho]
    | true =>
      obtain ⟨x', s', e1, hA'⟩ := AccR.appendF (e := T_string) (t := C.ti T_string) (f := AV.str) (B := [p.name]) (y := .full [.str p.name]) (hA.relay (s2 := lay s.locs [x] [] (reL .busy none o) [] T) rfl ⟨_, rfl⟩) rfl (fun _ => rfl) (by decide) (by simp only [List.length_singleton]; omega) (by decide +kernel)
      have hs' : s' = lay s.locs [x] [] (reL .busy none o) [] s'.toks := by
        have := appendS_locs e1
        obtain ⟨l, t⟩ := s'
        simp only at this
        subst this
        rfl
      rw [hs'] at e1 hA'
      simp only [go_sem, Nat.reduceAdd, Nat.reduceLeDiff, Nat.reduceSub, Nat.reduceMul, Nat.reduceEqDiff, Int.reduceEq, Int.reduceLT, Int.reduceLE, Int.reduceAdd, Int.reduceSub, Int.reduceNeg, Int.reduceGT, Int.reduceGE, Int.reduceNe, ne_eq, not_false_eq_true, e1, boxCells_one (t := C.ti T_S_string) (by kernel_rfl) (by kernel_rfl) hA'.cellOk, b3, b2]
      refine ⟨_, rfl, by simp only [List.length_append, List.length_singleton]; omega, x', s'.toks, ?_, ?_⟩
      · rw [reL_ready ho]
      · exact hA'.relay rfl ⟨_, rfl⟩
  obtain ⟨s1, e1, g1⟩ := walkN_spec hY t.size t (Nat.le_refl _) (by omega) [] 0 [] (lay s.locs [.val .nils] [] o [] s.toks) ⟨by simp only [List.length_nil]; omega, _, _, rfl, (AccR.nil T_string s).relay rfl ⟨_, rfl⟩⟩
  rw [List.append_nil] at e1
  rw [List.nil_append] at g1
  obtain ⟨_, x, T, rfl, hA⟩ := g1
  have e2 : ∀ s, cw (.f F_tree_pattern) [t.enc] s = some (.ret (.val (.fn F_tree_pattern_1 [.cp t.cells])), s) := fun s => by
    rw [tree_pattern_eq]; simp only [go_sem, Nat.reduceAdd, Nat.reduceLeDiff, Nat.reduceSub, Nat.reduceMul, Nat.reduceEqDiff, Int.reduceEq, Int.reduceLT, Int.reduceLE, Int.reduceAdd, Int.reduceSub, Int.reduceNeg, Int.reduceGT, Int.reduceGE, Int.reduceNe, ne_eq, not_false_eq_true]
  have b2 := endX_lay s.locs [x] [] [] T none .ready ho (by intro h; cases h)
  rw [tree_Vars_eq]
  simp only [go_sem, Nat.reduceAdd, Nat.reduceLeDiff, Nat.reduceSub, Nat.reduceMul, Nat.reduceEqDiff, Int.reduceEq, Int.reduceLT, Int.reduceLE, Int.reduceAdd, Int.reduceSub, Int.reduceNeg, Int.reduceGT, Int.reduceGE, Int.reduceNe, ne_eq, not_false_eq_true, addVar, e2, lay_len, lay_add]
  have e3 : cw (.f F_tree_pattern_1) [.yld (s.locs.length + 1), .cp t.cells] (lay s.locs [.val .nils] [] o [] s.toks) = some (.ret (.val (.tup [])), lay s.locs [x] [] o [] T) := by
    rw [tree_pattern_1_eq]; simp only [go_sem, Nat.reduceAdd, Nat.reduceLeDiff, Nat.reduceSub, Nat.reduceMul, Nat.reduceEqDiff, Int.reduceEq, Int.reduceLT, Int.reduceLE, Int.reduceAdd, Int.reduceSub, Int.reduceNeg, Int.reduceGT, Int.reduceGE, Int.reduceNe, ne_eq, not_false_eq_true, e1]
  have e4 : ∀ k, rangeC C cw (.val (.fn F_tree_pattern_1 [.cp t.cells])) (s.locs.length + 1) (lay s.locs [.val .nils] [] o [] s.toks) k = k (lay s.locs [x] [] o [] T) := fun k => by
    unfold rangeC
    rw [show tgtV (.val (.fn F_tree_pattern_1 [.cp t.cells])) [] = some (.f F_tree_pattern_1, [.cp t.cells]) from rfl]
    simp only [show (C.ext F_tree_pattern_1).isSome = false by kernel_rfl, cond_false, e3]
    rfl
  simp only [List.length_nil, Nat.add_zero] at b2 ⊢
  rw [reL_ready ho] at b2
  rw [e4, b2]
  simp only [go_sem, Nat.reduceAdd, Nat.reduceLeDiff, Nat.reduceSub, Nat.reduceMul, Nat.reduceEqDiff, Int.reduceEq, Int.reduceLT, Int.reduceLE, Int.reduceAdd, Int.reduceSub, Int.reduceNeg, Int.reduceGT, Int.reduceGE, Int.reduceNe, ne_eq, not_false_eq_true, pendX]
  exact ⟨x, _, rfl, hA.relay rfl ⟨_, rfl⟩⟩

theorem tree_Right_spec (l : List Dec) (nl : Bool) (s : St) (h : Dec.sizes l < 2^26) (H : ∀ n ∈ nodesDecs false l, n.ok) : Ret (cw (.f F_tree_Right) [encS nl (l.map Dec.enc)] s) s (rightN (nodesDecs false l) (deepDecs l 0)).enc := by
  obtain ⟨q, e1, hq⟩ := tree_program_spec l nl s (by omega)
  have hlen := nodesDecs_len false l
  have hd : NumOK (.fn F_tree_Right_1 [.cp [encS nl (l.map Dec.enc)]]) (deepDecs l 0) := ⟨_, _, rfl, fun s => by
    rw [tree_Right_1_eq]; simp only [go_sem, Nat.reduceAdd, Nat.reduceLeDiff, Nat.reduceSub, Nat.reduceMul, Nat.reduceEqDiff, Int.reduceEq, Int.reduceLT, Int.reduceLE, Int.reduceAdd, Int.reduceSub, Int.reduceNeg, Int.reduceGT, Int.reduceGE, Int.reduceNe, ne_eq, not_false_eq_true, tree_deepDecs_spec l nl s (by omega)]⟩
  obtain ⟨s', e2, g2⟩ := tree_right_spec hq hd (by omega) (fun nd hn => TNode.ok_name (H nd hn)) s
  revert e2
  generalize rightN _ _ = b
  intro e2
  obtain ⟨k, a, nm⟩ := b
  rw [tree_Right_eq]; simp only [go_sem, Nat.reduceAdd, Nat.reduceLeDiff, Nat.reduceSub, Nat.reduceMul, Nat.reduceEqDiff, Int.reduceEq, Int.reduceLT, Int.reduceLE, Int.reduceAdd, Int.reduceSub, Int.reduceNeg, Int.reduceGT, Int.reduceGE, Int.reduceNe, ne_eq, not_false_eq_true, e1, avs_cons (show (Slot.val q).av = some q from rfl), e2, TBad.enc, TBad.cells]
  exact Ret.mk g2

theorem tree_RightExp_spec (t : Exp) (s : St) (h : t.size < 2^26) (H : ∀ n ∈ nodesExp t, n.ok) : Ret (cw (.f F_tree_RightExp) [t.enc] s) s (rightN (nodesExp t) (deepExp t)).enc := by
  obtain ⟨q, e1, hq⟩ := tree_expression_spec t s (by omega)
  have hlen := nodesExp_len t
  have hd : NumOK (.fn F_tree_RightExp_1 [.cp t.cells]) (deepExp t) := ⟨_, _, rfl, fun s => by
    rw [tree_RightExp_1_eq]; simp only [go_sem, Nat.reduceAdd, Nat.reduceLeDiff, Nat.reduceSub, Nat.reduceMul, Nat.reduceEqDiff, Int.reduceEq, Int.reduceLT, Int.reduceLE, Int.reduceAdd, Int.reduceSub, Int.reduceNeg, Int.reduceGT, Int.reduceGE, Int.reduceNe, ne_eq, not_false_eq_true, tree_deepExp_spec t s (by omega)]⟩
  obtain ⟨s', e2, g2⟩ := tree_right_spec hq hd (by omega) (fun nd hn => TNode.ok_name (H nd hn)) s
  revert e2
  generalize rightN _ _ = b
  intro e2
  obtain ⟨k, a, nm⟩ := b
  rw [tree_RightExp_eq]; simp only [go_sem, Nat.reduceAdd, Nat.reduceLeDiff, Nat.reduceSub, Nat.reduceMul, Nat.reduceEqDiff, Int.reduceEq, Int.reduceLT, Int.reduceLE, Int.reduceAdd, Int.reduceSub, Int.reduceNeg, Int.reduceGT, Int.reduceGE, Int.reduceNe, ne_eq, not_false_eq_true, e1, avs_cons (show (Slot.val q).av = some q from rfl), e2, TBad.enc, TBad.cells]
  exact Ret.mk g2

theorem tree_RightPat_spec (t : Pat) (s : St) (h : t.size < 2^26) (H : ∀ n ∈ nodesPat t, n.ok) : Ret (cw (.f F_tree_RightPat) [t.enc] s) s (rightN (nodesPat t) (deepPat t)).enc := by
  obtain ⟨q, e1, hq⟩ := tree_pattern_spec t s (by omega)
  have hlen := nodesPat_len t
  have hd : NumOK (.fn F_tree_RightPat_1 [.cp t.cells]) (deepPat t) := ⟨_, _, rfl, fun s => by
    rw [tree_RightPat_1_eq]; simp only [go_sem, Nat.reduceAdd, Nat.reduceLeDiff, Nat.reduceSub, Nat.reduceMul, Nat.reduceEqDiff, Int.reduceEq, Int.reduceLT, Int.reduceLE, Int.reduceAdd, Int.reduceSub, Int.reduceNeg, Int.reduceGT, Int.reduceGE, Int.reduceNe, ne_eq, not_false_eq_true, tree_deepPat_spec _ t s (Nat.le_refl _) (by omega)]⟩
  obtain ⟨s', e2, g2⟩ := tree_right_spec hq hd (by omega) (fun nd hn => TNode.ok_name (H nd hn)) s
  revert e2
  generalize rightN _ _ = b
  intro e2
  obtain ⟨k, a, nm⟩ := b
  rw [tree_RightPat_eq]; simp only [go_sem, Nat.reduceAdd, Nat.reduceLeDiff, Nat.reduceSub, Nat.reduceMul, Nat.reduceEqDiff, Int.reduceEq, Int.reduceLT, Int.reduceLE, Int.reduceAdd, Int.reduceSub, Int.reduceNeg, Int.reduceGT, Int.reduceGE, Int.reduceNe, ne_eq, not_false_eq_true, e1, avs_cons (show (Slot.val q).av = some q from rfl), e2, TBad.enc, TBad.cells]
  exact Ret.mk g2

theorem tree_Size_spec (l : List Dec) (nl : Bool) (s : St) (h : Dec.sizes l < 2^26) : Ret (cw (.f F_tree_Size) [encS nl (l.map Dec.enc)] s) s (.int .i64 (countN (nodesDecs false l))) := by
  obtain ⟨q, e1, hq⟩ := tree_program_spec l nl s (by omega)
  have hlen := nodesDecs_len false l
  obtain ⟨s', e2, g2⟩ := tree_count_spec hq 4611686018427387904 (by decide) (by omega) s
  have hc : countN (nodesDecs false l) ≤ (nodesDecs false l).length := by unfold countN; exact List.length_filter_le _ _
  rw [show min (countN (nodesDecs false l)) 4611686018427387904 = countN (nodesDecs false l) by omega, show ((4611686018427387904 : Nat) : Int) = 4611686018427387904 from rfl] at e2
  rw [tree_Size_eq]; simp only [go_sem, Nat.reduceAdd, Nat.reduceLeDiff, Nat.reduceSub, Nat.reduceMul, Nat.reduceEqDiff, Int.reduceEq, Int.reduceLT, Int.reduceLE, Int.reduceAdd, Int.reduceSub, Int.reduceNeg, Int.reduceGT, Int.reduceGE, Int.reduceNe, ne_eq, not_false_eq_true, e1, avs_cons (show (Slot.val q).av = some q from rfl), e2]
  exact Ret.mk g2

end Go.Proofs.Ytemfpnlpnmglfaa
