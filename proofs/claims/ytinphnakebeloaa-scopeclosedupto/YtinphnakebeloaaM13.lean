/- A part of the proof: SScope7, PWithin, PRight, SRef5, SRef6, SLaw12, SRef8, PRef11, SRef11, SRef11b, PRef12. -/
import Derived.Test.YtinphnakebeloaaM6
import Derived.Test.YtinphnakebeloaaM7
import Derived.Test.YtinphnakebeloaaM8
import Derived.Test.YtinphnakebeloaaM10
import Derived.Test.YtinphnakebeloaaM12
import Derived.Lib.IndexMore
set_option linter.unusedVariables false
set_option linter.unusedSimpArgs false
namespace Go.Proofs.Ytinphnakebeloaa
open Go Go.Am
set_option linter.unusedVariables false
set_option maxRecDepth 4000
theorem QdY {v : AV} {l : List AV} (hv : (Slot.val v).list? = some l) : (Slot.val v).cellOk = true ∧ v.cells = [v] := by
 cases v <;> simp [Slot.list?] at hv <;> exact ⟨rfl, rfl⟩
section
variable {wl kl vl tl : Nat}
theorem ChkR.set {t t' : List Place} (h2 : wl ≠ tl) (h3 : vl ≠ tl) {n : Nat} {st : Option TBad} {h : List Nat} {s : St} (w : ChkR t wl kl vl tl n st h s) {v : AV} (hv : (Slot.val v).list? = some (t'.map Place.enc)) :
  stV s (.val (.vp tl 0)) [.val v] = some { s with locs := s.locs.set tl (.var [.val v]) } ∧ ChkR t' wl kl vl tl n st h { s with locs := s.locs.set tl (.var [.val v]) } ∧ Moves [wl, vl, tl] h h s { s with locs := s.locs.set tl (.var [.val v]) } := by
 obtain ⟨rfl, c1, c2, x, v0, c3, c4, c5⟩ := w
 refine ⟨by rw [Q1J c3 (by simp)]; rfl, ⟨rfl, ?_, ?_, .val v, v, Q81 c3, rfl, hv⟩, (Moves.refl _ _ _).setLoc (.inl (by simp)) _⟩
 ·simp only; rw [List.getElem?_set_ne (Ne.symm h2)]; exact c1
 ·simp only; rw [List.getElem?_set_ne (Ne.symm h3)]; exact c2
theorem Q4V (h1 : wl ≠ vl) (h2 : wl ≠ tl) (h3 : vl ≠ tl) (hk : kl ≠ wl ∧ kl ≠ vl ∧ kl ≠ tl) (P : List Dec) (hP : P.length < 2^40) (hsz : ∀ d ∈ P, d.size < 2^26) (y : Slot) (hy : y.list? = some (P.map Dec.enc)) : ∀ (suf pre : List Dec) (t : List Place) (n : Nat) (st : Option TBad) (bd : List Str) (s : St) (i : Nat), pre ++ suf = P → i = pre.length → (∀ d ∈ suf, DecFit d) → t.length + consOf suf < 2^26 → (∀ p ∈ t, WideTy p.ty) → RW (ChkR t wl kl vl tl) kl (n + 2 * Dec.sizes suf) st bd [] s →
  ∃ s', Q10 zb (.val (.vp tl 0)) (.val (.vp vl 0)) y (.val (.int .i64 P.length)) (.val (.int .i64 i)) s = some (.ret (.val ((chkDecs suf t bd st).2.getD .zero).enc), s') ∧ Moves (kl :: [wl, vl, tl]) [] [] s s'
 | [], pre, t, n, st, bd, s, i, hp, hi, hF, hl, hw, w => by
   subst hi
   refine ⟨s, ?_, .refl _ _ _⟩
   obtain ⟨-, c1, c2, -⟩ := w.r
   have f1 : ldV (C.ti QH) false s (.val (.vp vl 0)) = some (.val (.vp wl 0)) := by rw [Zf c2]; simp only [go_sem, Nat.reduceAdd, Nat.reduceLeDiff]
   have f2 := fun t off => Zf (t := t) (off := off) c1
   rw [Q4d]; simp only [go_sem, Nat.reduceAdd, Nat.reduceLeDiff, Q8 (by simpa using hp), f1, f2, wcells, zb, chkDecs, TBad.enc, TBad.cells]
 | d :: suf, pre, t, n, st, bd, s, i, hp, hi, hF, hl, hw, w => by
   subst hi
   obtain ⟨f1, f2, f3⟩ := Q7 hy hp (by omega) (Dec.cells_len d) (by decide)
   obtain ⟨hf1, hf2⟩ := hF d List.mem_cons_self
   simp only [consOf] at hl
   simp only [Dec.sizes] at w
   have H := Qjq h1 h2 hk (t := t) (by omega) hw
   obtain ⟨s1, h', bf, bc, ns, e1, w1, m1, -, -⟩ := (Q3F H d.size).2.2 d (Nat.le_refl _) (hsz d (by rw [← hp]; simp)) (n + 2 * Dec.sizes suf) st bd [] s (w.le H (by omega))
   obtain rfl : h' = [] := w1.r.1
   obtain ⟨-, c1, c2, x, v, c3, c4, c5⟩ := w1.r
   obtain ⟨s2, u, e2, hu, g2⟩ := Q70 t d (by omega) hw hf1 (by omega) hf2 v c5 s1
   have w2 := w1.grew H g2
   obtain ⟨e3, r3, m3⟩ := ChkR.set (t' := (addD t d).1) h2 h3 w2.r hu
   have hlen := Qct t d
   have w3 : RW (ChkR (addD t d).1 wl kl vl tl) kl (n + 2 * Dec.sizes suf) (scDec (chkI t) d bd st).2 (scDec (chkI t) d bd st).1 [] { s2 with locs := s2.locs.set tl (.var [.val u]) } := ⟨r3, w2.kn.moves m3 (by simp [hk]), w2.few⟩
   obtain ⟨s4, e4, m4⟩ := Q4V h1 h2 h3 hk P hP hsz y hy suf (pre ++ [d]) (addD t d).1 n _ _ _ (pre.length + 1) (by simpa using hp) (by simp) (fun q hq => hF q (List.mem_cons_of_mem _ hq)) (by omega) (Qbk t d hf1 hf2 hw) w3
   refine ⟨s4, ?_, ((m1.trans (Moves.grew _ _ g2)).trans (m3.wider (by simp +contextual))).trans m4⟩
   obtain ⟨-, -, c2', -⟩ := w.r
   have f4 : ldV (C.ti QH) false s (.val (.vp vl 0)) = some (.val (.vp wl 0)) := by rw [Zf c2']; simp only [go_sem, Nat.reduceAdd, Nat.reduceLeDiff]
   have f5 : ldV (C.ti Zl) false s1 (.val (.vp tl 0)) = some x := by rw [Zf c3]; simp only [go_sem, Nat.reduceAdd, Nat.reduceLeDiff]
   rw [Q4d]
   simp only [chkDecs]
   rw [← e4]
   simp only [Dec.enc, Dec.cells_eq] at e1 e2
   simp only [go_sem, Nat.reduceAdd, Nat.reduceLeDiff, f1, f2, f3, f4, f5, Dec.cells_eq, e1, Qu c4, e2, e3, (QdY hu).1]
end
@[go_sem] theorem Qoc (n : Nat) : (AV.mp n).cells = [.mp n] := id rfl
@[go_sem] theorem QoI (n : Nat) : (AV.mp n).isTup = false := id rfl
@[go_sem] theorem Qla : AV.nilf.cells = [.nilf] := id rfl
@[go_sem] theorem Qln : AV.nilf.isTup = false := id rfl
def four (s : St) (a b c d : Am.Obj) : St := (((s.addLoc a).addLoc b).addLoc c).addLoc d
theorem Q16 (s : St) (a b c d : Am.Obj) : (four s a b c d).locs = s.locs ++ [a, b, c, d] := by simp [four, St.addLoc]
theorem QfP (s : St) (a b c d : Am.Obj) : Grew s (four s a b c d) := ((((Grew.refl s).addLoc a).addLoc b).addLoc c).addLoc d
theorem Qjt (s : St) (a b c d : Am.Obj) : (four s a b c d).locs[s.locs.length]? = some a := by rw [Q16]; simp
theorem Qju (s : St) (a b c d : Am.Obj) : (four s a b c d).locs[s.locs.length + 1]? = some b := by rw [Q16, List.getElem?_append_right (by omega)]; simp
theorem QcK (s : St) (a b c d : Am.Obj) : (four s a b c d).locs[s.locs.length + 1 + 1]? = some c := by rw [Q16, List.getElem?_append_right (by omega), show s.locs.length + 1 + 1 - s.locs.length = 2 by omega]; rfl
theorem QcL (s : St) (a b c d : Am.Obj) : (four s a b c d).locs[s.locs.length + 1 + 1 + 1]? = some d := by rw [Q16, List.getElem?_append_right (by omega), show s.locs.length + 1 + 1 + 1 - s.locs.length = 3 by omega]; rfl
theorem Qeq (s : St) (a b c d e : Am.Obj) : ({ (four s a b c d) with locs := (four s a b c d).locs.set (s.locs.length + 1 + 1) e } : St) = four s a b e d := by
 have h1 : (four s a b e d).toks = (four s a b c d).toks := rfl
 have h2 : (four s a b c d).locs.set (s.locs.length + 1 + 1) e = (four s a b e d).locs := by
  rw [Q16, Q16, List.set_append_right _ _ (by omega), show s.locs.length + 1 + 1 - s.locs.length = 2 by omega]; rfl
 rw [h2]; rfl
theorem QhO (s : St) (a b c d e : Am.Obj) : ({ (four s a b c d) with locs := (four s a b c d).locs.set (s.locs.length + 1 + 1 + 1) e } : St) = four s a b c e := by
 have h2 : (four s a b c d).locs.set (s.locs.length + 1 + 1 + 1) e = (four s a b c e).locs := by
  rw [Q16, Q16, List.set_append_right _ _ (by omega), show s.locs.length + 1 + 1 + 1 - s.locs.length = 3 by omega]; rfl
 rw [h2]; rfl
theorem Q9j (P : List Dec) (nl : Bool) (hs : Dec.sizes P < 2^24) (hF : (rightN (nodesDecs false P) (deepDecs P 0)) = .zero → ∀ d ∈ P, DecFit d) (hok : ∀ n ∈ nodesDecs false P, n.ok) (s : St) : Ret (cw (.f ZA) [encS nl (P.map Dec.enc)] s) s (checkD P).enc := by
 obtain ⟨s1, e1, g1⟩ := Q5G P nl s (by omega) hok
 unfold checkD
 by_cases hr : rightN (nodesDecs false P) (deepDecs P 0) = .zero
 ·rw [if_neg (by simpa using hr)]
  obtain ⟨s2, w2, e2, hw2, g2⟩ := QcF P nl (hF hr) (by omega) s1
  rw [hr] at e1
  by_cases ho : (ofD P startD).2 = .zero
  ·rw [if_neg (by simpa using ho)]
   rw [ho] at e2
   obtain ⟨s3, e3, g3⟩ := Q5m s2
   let c0 : AV → AV → List Slot := fun x y => wcells (s3.locs.length + 1) .zero x y false false
   let F1 : AV := .fn Q0p [.vp (s3.locs.length + 1 + 1 + 1) 0]
   let F2 : AV := .fn Q0q [.vp s3.locs.length 0, .vp (s3.locs.length + 1 + 1 + 1) 0]
   let o1 : Am.Obj := .var [.full (startD.map Place.enc)]
   let S := fun (x y p : AV) => four s3 o1 (.map [] 0) (.var (c0 x y)) (.var [.val p])
   have k1 : stV (S .nilf .nilf .nilp) (.val (.vp (s3.locs.length + 1 + 1 + 1) 0)) [.val (.vp (s3.locs.length + 1 + 1) 0)] = some (S .nilf .nilf (.vp (s3.locs.length + 1 + 1) 0)) := by
    rw [Q1J (QcL _ _ _ _ _) (by simp), QhO]; rfl
   have k2 : ∀ x y, ldV (C.ti QH) false (S x y (.vp (s3.locs.length + 1 + 1) 0)) (.val (.vp (s3.locs.length + 1 + 1 + 1) 0)) = some (.val (.vp (s3.locs.length + 1 + 1) 0)) := fun x y => by
    rw [Zf (QcL _ _ _ _ _)]; simp only [go_sem, Nat.reduceAdd, Nat.reduceLeDiff]
   have k3 : stV (S .nilf .nilf (.vp (s3.locs.length + 1 + 1) 0)) (.val (.vp (s3.locs.length + 1 + 1) 5)) [.val F1] = some (S .nilf F1 (.vp (s3.locs.length + 1 + 1) 0)) := by
    rw [Q1J (QcK _ _ _ _ _) (by simp [c0, wcells]), Qeq]; rfl
   have k4 : stV (S .nilf F1 (.vp (s3.locs.length + 1 + 1) 0)) (.val (.vp (s3.locs.length + 1 + 1) 4)) [.val F2] = some (S F2 F1 (.vp (s3.locs.length + 1 + 1) 0)) := by
    rw [Q1J (QcK _ _ _ _ _) (by simp [c0, wcells]), Qeq]; rfl
   have r0 : ChkR startD (s3.locs.length + 1 + 1) (s3.locs.length + 1) (s3.locs.length + 1 + 1 + 1) s3.locs.length (0 + 2 * Dec.sizes P) none [] (S F2 F1 (.vp (s3.locs.length + 1 + 1) 0)) := ⟨rfl, QcK _ _ _ _ _, QcL _ _ _ _ _, _, .sl (startD.map Place.enc), Qjt _ _ _ _ _, rfl, rfl⟩
   have n0 : KN (S F2 F1 (.vp (s3.locs.length + 1 + 1) 0)) (s3.locs.length + 1) [] := ⟨_, ⟨[], 0, [], Qju _ _ _ _ _, .nil⟩, fun k => by simp⟩
   have hlen := Dec.len_sizes P
   have hc := Q7F P
   obtain ⟨s4, e4, m4⟩ := Q4V (wl := s3.locs.length + 1 + 1) (kl := s3.locs.length + 1) (vl := s3.locs.length + 1 + 1 + 1) (tl := s3.locs.length) (by omega) (by omega) (by omega) (by omega) P (by omega) (fun d hd => by have := Dec.mem_sizes hd; omega) (.val (encS nl (P.map Dec.enc))) (Qc _ _) P [] startD 0 none [] (S F2 F1 (.vp (s3.locs.length + 1 + 1) 0)) 0 rfl rfl (hF hr) (by simp only [startD, List.length_cons, List.length_nil]; omega) Q8T ⟨r0, n0, by simp only [List.length_nil]; omega⟩
   refine ⟨s4, ?_, ((g1.trans g2).trans g3).trans ((Moves.grew [] [] (QfP s3 _ _ _ _)).next m4 fun i hi => .inr ?_).toGrew⟩
   ·rw [show ((0 : Nat) : Int) = 0 from rfl] at e4
    rw [← e4]
    simp only [TBad.enc, TBad.cells, TBad.zero] at e1 e2
    rw [Q3E]
    simp only [S, four, F1, F2, o1, c0, wcells, TBad.zero] at k1 k2 k3 k4 ⊢
    simp only [go_sem, Nat.reduceAdd, Nat.reduceLeDiff, e1, e2, e3, Q1b, decide_eq_true (Eq.refl (TBad.mk 0 0 [])), Bool.not_true, k1, k2, k3, k4, List.length_map, zb]
   ·simp only [List.mem_cons, List.not_mem_nil, or_false] at hi
    omega
  ·rw [if_pos (by simpa using ho)]
   refine ⟨s2, ?_, g1.trans g2⟩
   revert e2 ho
   generalize (ofD P startD).2 = b
   intro e2 ho
   obtain ⟨k, a, nm⟩ := b
   rw [Q3E]
   simp only [TBad.enc, TBad.cells, TBad.zero] at e1 e2 ho
   simp only [go_sem, Nat.reduceAdd, Nat.reduceLeDiff, e1, e2, Q1b, decide_eq_true (Eq.refl (TBad.mk 0 0 [])), Bool.not_true, decide_eq_false ho, Bool.not_false, TBad.enc, TBad.cells]
 ·rw [if_pos (by simpa using hr)]
  refine ⟨s1, ?_, g1⟩
  revert e1 hr
  generalize rightN (nodesDecs false P) (deepDecs P 0) = b
  intro e1 hr
  obtain ⟨k, a, nm⟩ := b
  rw [Q3E]
  simp only [TBad.enc, TBad.cells, TBad.zero] at e1 hr
  simp only [go_sem, Nat.reduceAdd, Nat.reduceLeDiff, e1, Q1b, decide_eq_false hr, Bool.not_false, TBad.enc, TBad.cells]
theorem Q4t {x : Slot} {v : AV} {l : List AV} (h : x.av = some v) (g : (Slot.val v).list? = some l) : x.list? = some l := by
 cases x with
 | und => cases h
 | no => cases h
 | val w => cases h; exact g
 | own k e m => cases h; exact g
 | full m => cases h; exact g
def RetL (r : Res) (s0 : St) (l : List Str) : Prop := ∃ x s' v, r = some (.ret x, s') ∧ x.av = some v ∧ (Slot.val v).list? = some (l.map .str) ∧ Grew s0 s'
section
variable (wl kl ol : Nat)
def FreeR (n : Nat) (out : List Str) (h : List Nat) (s : St) : Prop := s.locs[wl]? = some (.var (wcells kl .zero (.fn Q0K []) (.fn Q07 [.vp ol 0]) false true)) ∧ NamesAt ol s out h ∧ out.length + n < 2^28
variable {wl kl ol}
theorem Q8p {s : St} {l : List Str} {h : List Nat} (n : NamesAt ol s l h) (hl : l.length < 2^28) (nm : Str) (a : Int) :
  ∃ s' h', cw (.f Q07) [.str nm, .int .i64 a, .vp ol 0] s = some (.ret (.val (.tup [])), s') ∧ NamesAt ol s' (addS l nm) h' ∧ Moves [ol] h h' s s' := by
 obtain ⟨x, x', s1, s', h', h1, ⟨v, hv, hv2⟩, e1, hc, e2, n2, m2⟩ := n.push hl nm
 have e3 := Q43 nm l v hv2 (by omega) s
 have e4 : ldV (C.ti Qa) false s (.val (.vp ol 0)) = some x := by rw [Zf h1]; simp only [go_sem, Nat.reduceAdd, Nat.reduceLeDiff]
 by_cases hm : nm ∈ l
 ·refine ⟨s, h, ?_, by rw [addS, if_pos hm]; exact n, .refl _ _ _⟩
  rw [Q5x]
  simp only [go_sem, Nat.reduceAdd, e4, Qu hv, e3, hm, decide_true, Bool.not_true]
 ·refine ⟨s', h', ?_, by rw [addS, if_neg hm]; exact n2, m2⟩
  rw [Q5x]
  simp only [go_sem, Nat.reduceAdd, e4, Qu hv, e3, hm, decide_false, Bool.not_false, e1, hc, e2]
theorem QhR (h1 : wl ≠ ol) (hk : kl ≠ wl ∧ kl ≠ ol) : ScOK freeI wl kl [wl, ol] Q0K [] Q07 [.vp ol 0] (FreeR wl kl ol) where
 cell := fun {n st h s} w => ⟨_, _, w.1⟩
 con := fun {n st h s} nm a k w => ⟨s, h, by rw [Qai]; simp only [go_sem], ⟨w.1, w.2.1, by have := w.2.2; simp only [freeI]; omega⟩, .refl _ _ _⟩
 free := fun {n st h s} nm a w => by
  obtain ⟨c1, c2, c3⟩ := w
  obtain ⟨s2, h2, e2, n2, m2⟩ := Q8p c2 (by omega) nm a
  have hle : (addS st nm).length ≤ st.length + 1 := by unfold addS; split <;> simp
  exact ⟨s2, h2, e2, ⟨m2.loc c1 (by simpa using h1), n2, by simp only [freeI]; omega⟩, m2.wider (by simp)⟩
 fail := fun {n st h s} e nm a w => ⟨s, h, Q5E w.1 rfl e a nm, ⟨w.1, w.2.1, by have := w.2.2; simp only [freeI]; omega⟩, .refl _ _ _⟩
 stab := fun {n st h s s'} w hl ht => ⟨by rw [hl wl (by simp)]; exact w.1, w.2.1.stab (hl ol (by simp)) ht, w.2.2⟩
 held := fun {n st h s} w => w.2.1.held
 low := fun {n st h s} w i hi => by
  simp only [List.mem_cons, List.not_mem_nil, or_false] at hi
  rcases hi with rfl | rfl
  ·exact (List.getElem?_eq_some_iff.1 w.1).1
  ·exact w.2.1.lt
 le := fun {n m st h s} w k => ⟨w.1, w.2.1, by have := w.2.2; omega⟩
 wA := by simp
 kA := by simp [hk]
end
def three (s : St) (a b c : Am.Obj) : St := ((s.addLoc a).addLoc b).addLoc c
theorem Q3a (s : St) (a b c : Am.Obj) : (three s a b c).locs = s.locs ++ [a, b, c] := by simp [three, St.addLoc]
theorem Qfa (s : St) (a b c : Am.Obj) : Grew s (three s a b c) := (((Grew.refl s).addLoc a).addLoc b).addLoc c
theorem Qi5 (s : St) (a b c : Am.Obj) : (three s a b c).locs[s.locs.length]? = some a := by rw [Q3a]; simp
theorem Qi6 (s : St) (a b c : Am.Obj) : (three s a b c).locs[s.locs.length + 1]? = some b := by rw [Q3a, List.getElem?_append_right (by omega)]; simp
theorem Q8m (s : St) (a b c : Am.Obj) : (three s a b c).locs[s.locs.length + 1 + 1]? = some c := by rw [Q3a, List.getElem?_append_right (by omega), show s.locs.length + 1 + 1 - s.locs.length = 2 by omega]; rfl
theorem Q9k (s : St) (a b c e : Am.Obj) : ({ (three s a b c) with locs := (three s a b c).locs.set (s.locs.length + 1 + 1) e } : St) = three s a b e := by
 have h2 : (three s a b c).locs.set (s.locs.length + 1 + 1) e = (three s a b e).locs := by
  rw [Q3a, Q3a, List.set_append_right _ _ (by omega), show s.locs.length + 1 + 1 - s.locs.length = 2 by omega]; rfl
 rw [h2]; rfl
theorem Q30 (e : Exp) (hs : e.size < 2^24) (hok : ∀ n ∈ nodesExp e, n.ok) (s : St) : RetL (cw (.f Q1B) [e.enc] s) s (freeD e) := by
 obtain ⟨s1, e1, g1⟩ := Q83 e s (by omega) hok
 unfold freeD
 by_cases hr : rightN (nodesExp e) (deepExp e) = .zero
 ·rw [if_neg (by simpa using hr)]
  rw [hr] at e1
  let c0 : AV → AV → Bool → List Slot := fun x y q => wcells (s1.locs.length + 1) .zero x y false q
  let F1 : AV := .fn Q07 [.vp s1.locs.length 0]
  let F2 : AV := .fn Q0K []
  let S := fun (x y : AV) (q : Bool) => three s1 (.var [.val .nils]) (.map [] 0) (.var (c0 x y q))
  have k1 : stV (S .nilf .nilf false) (.val (.vp (s1.locs.length + 1 + 1) 5)) [.val F1] = some (S .nilf F1 false) := by
   rw [Q1J (Q8m _ _ _ _) (by simp [c0, wcells]), Q9k]; rfl
  have k2 : stV (S .nilf F1 false) (.val (.vp (s1.locs.length + 1 + 1) 4)) [.val F2] = some (S F2 F1 false) := by
   rw [Q1J (Q8m _ _ _ _) (by simp [c0, wcells]), Q9k]; rfl
  have k3 : stV (S F2 F1 false) (.val (.vp (s1.locs.length + 1 + 1) 7)) [.val (.bool true)] = some (S F2 F1 true) := by
   rw [Q1J (Q8m _ _ _ _) (by simp [c0, wcells]), Q9k]; rfl
  have r0 : FreeR (s1.locs.length + 1 + 1) (s1.locs.length + 1) s1.locs.length (0 + 2 * e.size) [] [] (S F2 F1 true) := ⟨Q8m _ _ _ _, ⟨_, Qi5 _ _ _ _, .inl ⟨rfl, rfl, rfl⟩⟩, by simp only [List.length_nil]; omega⟩
  have n0 : KN (S F2 F1 true) (s1.locs.length + 1) [] := ⟨_, ⟨[], 0, [], Qi6 _ _ _ _, .nil⟩, fun k => by simp⟩
  obtain ⟨s2, h2, e2, w2, m2⟩ := (Q3F (QhR (wl := s1.locs.length + 1 + 1) (kl := s1.locs.length + 1) (ol := s1.locs.length) (by omega) (by omega)) e.size).1 e (Nat.le_refl _) (by omega) 0 [] [] [] _ ⟨r0, n0, by simp only [List.length_nil]; omega⟩
  obtain ⟨x, v, q1, q2, q3⟩ := w2.r.2.1.read
  refine ⟨x, s2, v, ?_, q2, q3, g1.trans (((Moves.grew [] [] (Qfa s1 _ _ _)).next m2 fun i hi => .inr ?_).shrink (g := []) (by simp)).toGrew⟩
  ·simp only [TBad.enc, TBad.cells, TBad.zero] at e1
   simp only [Exp.enc, Exp.cells_eq] at e1 e2
   rw [Q7g]
   simp only [S, three, F1, F2, c0, wcells, TBad.zero] at k1 k2 k3 e2
   simp only [go_sem, Nat.reduceAdd, Nat.reduceLeDiff, Exp.enc, Exp.cells_eq, e1, Q1b, decide_eq_true (Eq.refl (TBad.mk 0 0 [])), Bool.not_true, k1, k2, k3, e2, q1]
  ·simp only [List.mem_cons, List.not_mem_nil, or_false] at hi
   omega
 ·rw [if_pos (by simpa using hr)]
  refine ⟨.val .nils, s1, .nils, ?_, rfl, rfl, g1⟩
  revert e1 hr
  generalize rightN (nodesExp e) (deepExp e) = b
  intro e1 hr
  obtain ⟨k, a, nm⟩ := b
  rw [Q7g]
  simp only [TBad.enc, TBad.cells, TBad.zero] at e1 hr
  simp only [Exp.enc, Exp.cells_eq] at e1
  simp only [go_sem, Nat.reduceAdd, Nat.reduceLeDiff, Exp.enc, Exp.cells_eq, e1, Q1b, decide_eq_false hr, Bool.not_false]
theorem Q4U (d : Dec) (hs : d.size < 2^24) (hok : ∀ n ∈ nodesDecs false [d], n.ok) (s : St) : RetL (cw (.f Q2r) [d.enc] s) s (bindsD d) := by
 obtain ⟨s1, e1, g1⟩ := Q5G [d] false s (by simp only [Dec.sizes]; omega) hok
 simp only [List.map_cons, List.map_nil, Q3Q] at e1
 unfold bindsD
 by_cases hr : rightN (nodesDecs false [d]) (deepDecs [d] 0) = .zero
 ·rw [if_neg (by simpa using hr)]
  rw [hr] at e1
  obtain ⟨x, s2, h2, e2, a2, g2⟩ := Q50 d (by omega) s1
  refine ⟨x, s2, _, ?_, a2.av, Qc _ _, g1.trans g2⟩
  simp only [TBad.enc, TBad.cells, TBad.zero] at e1
  simp only [Dec.enc, Dec.cells_eq] at e1 e2
  rw [Q6h]
  simp only [go_sem, Nat.reduceAdd, Nat.reduceLeDiff, Dec.enc, Dec.cells_eq, e1, e2, Q1b, decide_eq_true (Eq.refl (TBad.mk 0 0 [])), Bool.not_true]
 ·rw [if_pos (by simpa using hr)]
  refine ⟨.val .nils, s1, .nils, ?_, rfl, rfl, g1⟩
  revert e1 hr
  generalize rightN (nodesDecs false [d]) (deepDecs [d] 0) = b
  intro e1 hr
  obtain ⟨k, a, nm⟩ := b
  rw [Q6h]
  simp only [TBad.enc, TBad.cells, TBad.zero] at e1 hr
  simp only [Dec.enc, Dec.cells_eq] at e1
  simp only [go_sem, Nat.reduceAdd, Nat.reduceLeDiff, Dec.enc, Dec.cells_eq, e1, Q1b, decide_eq_false hr, Bool.not_false]
end Go.Proofs.Ytinphnakebeloaa
namespace Go.Am
open Go
def Within (l : List TNode) (D : Int) (S : Nat) : Prop := ∀ n ∈ l, (∀ e, n = .exp e → (∃ a b, l = a ++ (nodesExp e ++ b)) ∧ deepExp e ≤ D ∧ e.size ≤ S) ∧ (∀ p, n = .pat p → (∃ a b, l = a ++ (nodesPat p ++ b)) ∧ deepPat p ≤ D ∧ p.size ≤ S)
theorem Within.nil (D : Int) (S : Nat) : Within [] D S := fun n hn => by cases hn
theorem Within.mono {l : List TNode} {D E : Int} {S T : Nat} (h : Within l D S) (hd : D ≤ E) (hs : S ≤ T) : Within l E T := fun n hn => ⟨fun e he => by
 obtain ⟨h1, h2, h3⟩ := (h n hn).1 e he
 exact ⟨h1, by omega, by omega⟩, fun p hp => by
 obtain ⟨h1, h2, h3⟩ := (h n hn).2 p hp
 exact ⟨h1, by omega, by omega⟩⟩
theorem Within.app {l m : List TNode} {D : Int} {S : Nat} (h : Within l D S) (g : Within m D S) : Within (l ++ m) D S := fun n hn => by
 rcases List.mem_append.1 hn with hn | hn
 ·refine ⟨fun e he => ?_, fun p hp => ?_⟩
  ·obtain ⟨⟨a, b, hab⟩, hd⟩ := (h n hn).1 e he
   exact ⟨⟨a, b ++ m, by rw [hab]; simp⟩, hd⟩
  ·obtain ⟨⟨a, b, hab⟩, hd⟩ := (h n hn).2 p hp
   exact ⟨⟨a, b ++ m, by rw [hab]; simp⟩, hd⟩
 ·refine ⟨fun e he => ?_, fun p hp => ?_⟩
  ·obtain ⟨⟨a, b, hab⟩, hd⟩ := (g n hn).1 e he
   exact ⟨⟨l ++ a, b, by rw [hab]; simp⟩, hd⟩
  ·obtain ⟨⟨a, b, hab⟩, hd⟩ := (g n hn).2 p hp
   exact ⟨⟨l ++ a, b, by rw [hab]; simp⟩, hd⟩
theorem Within.cons {l : List TNode} {D : Int} {S : Nat} {n : TNode} (h : Within l D S) (h1 : ∀ e, n = .exp e → n :: l = nodesExp e ∧ deepExp e ≤ D ∧ e.size ≤ S) (h2 : ∀ p, n = .pat p → n :: l = nodesPat p ∧ deepPat p ≤ D ∧ p.size ≤ S) : Within (n :: l) D S := fun m hm => by
 rcases List.mem_cons.1 hm with rfl | hm
 ·exact ⟨fun e he => ⟨⟨[], [], by rw [(h1 e he).1]; simp⟩, (h1 e he).2⟩, fun p hp => ⟨⟨[], [], by rw [(h2 p hp).1]; simp⟩, (h2 p hp).2⟩⟩
 ·refine ⟨fun e he => ?_, fun p hp => ?_⟩
  ·obtain ⟨⟨a, b, hab⟩, hd⟩ := (h m hm).1 e he
   exact ⟨⟨n :: a, b, by rw [hab]; simp⟩, hd⟩
  ·obtain ⟨⟨a, b, hab⟩, hd⟩ := (h m hm).2 p hp
   exact ⟨⟨n :: a, b, by rw [hab]; simp⟩, hd⟩
mutual
theorem QbT (a : Int) (D : Int) (S : Nat) : ∀ t : Ty, Within (nodesTy a t) D S
 | .mk k n s l b => by
   rw [nodesTy]
   exact (QaC a D S l).cons (fun e he => by cases he) (fun p hp => by cases hp)
theorem QaC (a : Int) (D : Int) (S : Nat) : ∀ l : List Ty, Within (nodesTys a l) D S
 | [] => by rw [nodesTys]; exact .nil D S
 | t :: l => by rw [nodesTys]; exact (QbT a D S t).app (QaC a D S l)
end
mutual
theorem Q6U : ∀ t : Pat, Within (nodesPat t) (deepPat t) t.size
 | .mk k a s n l b => by
   have h := Q96 l 0
   rw [nodesPat]
   refine (h.mono (by simp only [deepPat]; omega) (by simp only [Pat.size]; omega)).cons (fun e he => by cases he) (fun p hp => by cases hp; exact ⟨by rw [nodesPat], Int.le_refl _, Nat.le_refl _⟩)
theorem Q96 : ∀ (l : List Pat) (n : Int), Within (nodesPats l) (deepPats l n) (Pat.sizes l)
 | [], n => by rw [nodesPats]; exact .nil _ _
 | t :: l, n => by
   rw [nodesPats, deepPats, Pat.sizes]
   have h1 := (Q5O l (maxI n (deepPat t))).1
   have h2 := Q1T n (deepPat t)
   exact ((Q6U t).mono (by omega) (by omega)).app ((Q96 l _).mono (Int.le_refl _) (by omega))
end
theorem Qff (c : Con) (D : Int) (S : Nat) : Within (nodesCon c) D S := by
 unfold nodesCon
 refine Within.cons ?_ (fun e he => by cases he) (fun p hp => by cases hp)
 cases c.has
 ·exact .nil D S
 ·exact QbT _ D S _
theorem Q92 (D : Int) (S : Nat) : ∀ l : List Con, Within (nodesCons l) D S
 | [] => by rw [nodesCons]; exact .nil D S
 | t :: l => by rw [nodesCons]; exact (Qff t D S).app (Q92 D S l)
mutual
theorem Q6T : ∀ t : Exp, Within (nodesExp t) (deepExp t) t.size
 | .mk k a s n l lb c cb d db => by
   have h1 := Q93 true d 0
   have h2 := Q94 l (maxI (deepDecs d 0) (deepCases c 0))
   have h3 := Q5d c 0
   have g1 := (Q3K l (maxI (deepDecs d 0) (deepCases c 0))).1
   have g2 := Q1T (deepDecs d 0) (deepCases c 0)
   rw [nodesExp]
   refine Within.cons ((h1.mono ?_ ?_).app ((h2.mono ?_ ?_).app (h3.mono ?_ ?_))) (fun e he => by cases he; exact ⟨by rw [nodesExp], Int.le_refl _, Nat.le_refl _⟩) (fun p hp => by cases hp)
   all_goals simp only [deepExp, Exp.size]; omega
theorem Q94 : ∀ (l : List Exp) (n : Int), Within (nodesExps l) (deepExps l n) (Exp.sizes l)
 | [], n => by rw [nodesExps]; exact .nil _ _
 | t :: l, n => by
   rw [nodesExps, deepExps, Exp.sizes]
   have h1 := (Q3K l (maxI n (deepExp t))).1
   have h2 := Q1T n (deepExp t)
   exact ((Q6T t).mono (by omega) (by omega)).app ((Q94 l _).mono (Int.le_refl _) (by omega))
theorem Qea : ∀ c : Case, Within (nodesCase c) (deepCase c) c.size
 | .mk p e => by
   have h1 := Q6U p
   have h2 := Q6T e
   have h3 := Q1T 0 (deepPat p)
   have h4 := Q1T (maxI 0 (deepPat p)) (deepExp e)
   rw [nodesCase, deepCase, Case.size]
   exact (h1.mono (by omega) (by omega)).app (h2.mono (by omega) (by omega))
theorem Q5d : ∀ (l : List Case) (n : Int), Within (nodesCases l) (deepCases l n) (Case.sizes l)
 | [], n => by rw [nodesCases]; exact .nil _ _
 | .mk p e :: l, n => by
   have h1 := Q6U p
   have h2 := Q6T e
   have h3 := Q1T n (deepPat p)
   have h4 := Q1T (maxI n (deepPat p)) (deepExp e)
   have h5 := (Q0P l (maxI (maxI n (deepPat p)) (deepExp e))).1
   have h6 := Q5d l (maxI (maxI n (deepPat p)) (deepExp e))
   rw [nodesCases, nodesCase, deepCases, Case.sizes, Case.size]
   exact ((h1.mono (by omega) (by omega)).app (h2.mono (by omega) (by omega))).app (h6.mono (Int.le_refl _) (by omega))
theorem Q93 (i : Bool) : ∀ (l : List Dec) (n : Int), Within (nodesDecs i l) (deepDecs l n) (Dec.sizes l)
 | [], n => by rw [nodesDecs]; exact .nil _ _
 | .mk k a s p l lb c cb f fb :: r, n => by
   have h1 := Q5d c 0
   have h2 := Q95 f (deepCases c 0)
   have h3 := fun D S => Q92 D S l
   have h4 := Q93 i r (maxI n (deepCons l (deepFuns f (deepCases c 0)) + 1))
   have g1 := (Q2b f (deepCases c 0)).1
   have g2 := (Q3J l (deepFuns f (deepCases c 0))).1
   have g3 := (Q1s r (maxI n (deepCons l (deepFuns f (deepCases c 0)) + 1))).1
   have g4 := Q1T n (deepCons l (deepFuns f (deepCases c 0)) + 1)
   rw [nodesDecs, nodesDec, deepDecs, Dec.sizes, Dec.size]
   exact (Within.cons ((h1.mono (by omega) (by omega)).app ((h2.mono (by omega) (by omega)).app (h3 _ _))) (fun e he => by cases he) (fun p hp => by cases hp)).app (h4.mono (Int.le_refl _) (by omega))
theorem Q95 : ∀ (l : List Fun) (n : Int), Within (nodesFuns l) (deepFuns l n) (Fun.sizes l)
 | [], n => by rw [nodesFuns]; exact .nil _ _
 | .mk s a c :: l, n => by
   have h1 := Qea c
   have h2 := Q95 l (maxI n (deepCase c))
   have g1 := (Q2b l (maxI n (deepCase c))).1
   have g2 := Q1T n (deepCase c)
   rw [nodesFuns, nodesFun, deepFuns, Fun.sizes, Fun.size]
   exact (Within.cons (h1.mono (by omega) (by omega)) (fun e he => by cases he) (fun p hp => by cases hp)).app (h2.mono (Int.le_refl _) (by omega))
end
theorem Q2W : ∀ l : List TNode, firstBad l = .zero → ∀ n ∈ l, n.bad.kind = 0
 | [], _, n, hn => by cases hn
 | u :: l, h, n, hn => by
   rw [firstBad] at h
   by_cases hu : u.bad.kind = 0
   ·rw [decide_eq_true hu, cond_true] at h
    rcases List.mem_cons.1 hn with rfl | hn
    ·exact hu
    ·exact Q2W l h n hn
   ·rw [decide_eq_false hu, cond_false] at h
    rw [h] at hu
    exact absurd rfl hu
theorem Q75 : ∀ l : List TNode, (∀ n ∈ l, n.bad.kind = 0) → firstBad l = .zero
 | [], _ => rfl
 | u :: l, h => by
   rw [firstBad, decide_eq_true (h u (by simp)), cond_true]
   exact Q75 l fun n hn => h n (List.mem_cons_of_mem _ hn)
theorem Q6I {l m a b : List TNode} {D E : Int} (h : rightN l D = .zero) (hm : l = a ++ (m ++ b)) (hd : E ≤ D) : rightN m E = .zero := by
 unfold rightN at h ⊢
 cases h1 : decide (countN l > 8192) with
 | true => rw [h1, cond_true] at h; cases h
 | false =>
   rw [h1, cond_false] at h
   cases h2 : decide (D > 100) with
   | true => rw [h2, cond_true] at h; cases h
   | false =>
     rw [h2, cond_false] at h
     have h3 := Q2W l h
     have h4 : countN m ≤ countN l := by rw [hm]; simp only [countN, List.filter_append, List.length_append]; omega
     have h5 : ¬ countN l > 8192 := of_decide_eq_false h1
     have h6 : ¬ D > 100 := of_decide_eq_false h2
     rw [decide_eq_false (by omega), cond_false, decide_eq_false (by omega), cond_false]
     exact Q75 m fun n hn => h3 n (by rw [hm]; simp [hn])
end Go.Am
namespace Go.Am
open Go
set_option linter.unusedVariables false
theorem Q8P {l : List TNode} {D : Int} (h : rightN l D = .zero) : firstBad l = .zero := by
 unfold rightN at h
 cases h1 : decide (countN l > 8192) with
 | true => rw [h1, cond_true] at h; cases h
 | false =>
   rw [h1, cond_false] at h
   cases h2 : decide (D > 100) with
   | true => rw [h2, cond_true] at h; cases h
   | false => rw [h2, cond_false] at h; exact h
theorem wrong0 {n : TNode} (h : n.bad.kind = 0) : n.wrong.1 = 0 := by
 unfold TNode.bad mkBad at h
 by_cases e : n.wrong.1 = 0
 ·exact e
 ·rw [decide_eq_false e, cond_false] at h; exact h
theorem Q2e {l : List TNode} {D : Int} (h : rightN l D = .zero) : ∀ n ∈ l, n.wrong.1 = 0 := fun n hn => wrong0 (Q2W l (Q8P h) n hn)
theorem Q73 : ∀ l : List TNode, (firstBad l).kind = 0 → firstBad l = .zero
 | [], _ => rfl
 | n :: l, h => by
   rw [firstBad] at h ⊢
   by_cases e : n.bad.kind = 0
   ·rw [decide_eq_true e, cond_true] at h ⊢; exact Q73 l h
   ·rw [decide_eq_false e, cond_false] at h; exact absurd h e
theorem Qf5 {l : List TNode} {D : Int} : (rightN l D).kind = 0 ↔ rightN l D = .zero := by
 constructor
 ·unfold rightN
  cases decide (countN l > 8192) with
  | true => intro h; cases h
  | false =>
    cases decide (D > 100) with
    | true => intro h; cases h
    | false => exact Q73 l
 ·intro h; rw [h]; rfl
structure DecIs (k : Int) (nm : Str) (p nl nc nf : Int) (inn : Bool) : Prop where
 kind : k = 1 ∨ k = 2 ∨ k = 3 ∨ k = 4
 val : k = 1 → nc = 1 ∧ ¬ nf > 0 ∧ ¬ nl > 0
 fn : k = 2 → ¬ nc > 0 ∧ ¬ nl > 0 ∧ nf > 0
 data : k = 3 → ¬ nc > 0 ∧ ¬ nf > 0 ∧ 0 ≤ p ∧ p ≤ 8 ∧ lowB nm = true ∧ nl > 0 ∧ nl ≤ 64
 exn : k = 4 → ¬ nc > 0 ∧ ¬ nf > 0 ∧ nl = 1
 bare : k ≠ 3 → p = 0 ∧ nm = []
 inn : inn = true → k = 1 ∨ k = 2
theorem QhI {k : Int} {nm : Str} {p nl nc nf : Int} {inn : Bool} (h : wrongDecC k nm p nl nc nf inn = 0) : DecIs k nm p nl nc nf inn := by
 unfold wrongDecC at h
 by_cases h1 : k = 1
 ·subst h1
  simp only [decide_true, cond_true, Int.reduceEq, decide_false, cond_false] at h
  grind [DecIs]
 ·by_cases h2 : k = 2
  ·subst h2
   simp only [decide_true, cond_true, Int.reduceEq, decide_false, cond_false] at h
   grind [DecIs]
  ·by_cases h3 : k = 3
   ·subst h3
    simp only [decide_true, cond_true, Int.reduceEq, decide_false, cond_false] at h
    grind [DecIs]
   ·by_cases h4 : k = 4
    ·subst h4
     simp only [decide_true, cond_true, Int.reduceEq, decide_false, cond_false] at h
     grind [DecIs]
    ·simp only [decide_eq_false h1, decide_eq_false h2, decide_eq_false h3, decide_eq_false h4, cond_false, Bool.not_false, Bool.true_or, cond_true] at h
     cases h
theorem Q9I {d : Dec} {inn : Bool} (h : wrongDecB d inn = 0) : DecIs d.kind d.name d.params d.cons.length d.case.length d.funs.length inn := QhI h
theorem len0 {α : Type} {l : List α} (h : ¬ ((l.length : Int) > 0)) : l = [] := List.eq_nil_of_length_eq_zero (by omega)
theorem Qi0 {p : Pat} (h : wrongPatB p = 0) (hk : p.kind = 4) : p.kids.length ≤ 1 := by
 unfold wrongPatB patLM at h
 simp only [hk, decide_true, cond_true, Int.reduceEq, decide_false, cond_false] at h
 grind
theorem QhN {e : Exp} (h : wrongExpB e = 0) (hk : e.kind = 3) : e.kids.length ≤ 1 := by
 unfold wrongExpB expLM at h
 simp only [hk, decide_true, cond_true, Int.reduceEq, decide_false, cond_false] at h
 grind
theorem QmN {t : Ty} (h : wrongTyB t = 0) : (t.kind = 1 ∨ t.kind = 2) ∧ (t.kind = 1 → t.args = [] ∧ 0 ≤ t.n ∧ t.name = []) ∧ (t.kind = 2 → t.n = 0) := by
 unfold wrongTyB wrongTyC at h
 have : ¬ ((t.args.length : Int) > 0) → t.args = [] := len0
 grind
end Go.Am
namespace Go.Proofs.Ytinphnakebeloaa
open Go Go.Am
set_option linter.unusedVariables false
set_option maxRecDepth 4000
abbrev Nodes (r : Res) (s : St) (l : List TNode) : Prop := RetA r Qb s (l.map TNode.enc)
abbrev NAcc (s0 s : St) (x : Slot) (l : List TNode) : Prop := AccR Qb s0 s x (l.map TNode.enc)
theorem nacc {s0 s : St} {x y : Slot} {A B : List TNode} (h : NAcc s0 s x A) (hy : y.list? = some (B.map TNode.enc)) (b : A.length + B.length < 2^30) : ∃ x' s', appendS Qb (C.ti Qb) s x y = some (x', s') ∧ NAcc s0 s' x' (A ++ B) :=
 AccR.appendF h hy (fun a => by rw [Q42]; exact TNode.cells_len a) (by rw [Q42]; decide) b (by rw [Q7v]; decide)
theorem Q5u (a : Int) (t : Ty) (hl : t.args.length < 2^40) (s0 : St) : ∀ (suf pre : List Ty) (A : List TNode) (x : Slot) (s : St) (i : Nat), NAcc s0 s x A → pre ++ suf = t.args → i = pre.length → (∀ t ∈ suf, ∀ s, Nodes (cw (.f Q0J) [t.enc, .int .i64 a] s) s (nodesTy a t)) → A.length + Ty.sizes suf < 2^30 →
  Nodes (Q1k (.val (.int .i64 a)) (t.cells.map .val) x (.val (.int .i64 i)) s) s0 (A ++ nodesTys a suf)
 | [], pre, A, x, s, i, hx, h, hi, H, hb => by
   subst hi
   rw [Q4S]; simp only [go_sem, Nat.reduceAdd, Nat.reduceLeDiff, Ty.cells_eq, Q8 (by simpa using h), nodesTys]
   exact RetA.mk hx
 | u :: suf, pre, A, x, s, i, hx, h, hi, H, hb => by
   subst hi
   obtain ⟨f1, f2, f3⟩ := Q7 (x := .val (encS t.nl (t.args.map Ty.enc))) (Qc _ _) h (by omega) (Ty.cells_len u) (by decide)
   obtain ⟨y, s1, e1, g1⟩ := H u (List.mem_cons_self) s
   have hlen := Q3L a u
   simp only [Ty.sizes] at hb
   obtain ⟨x', s2, e2, g2⟩ := nacc (hx.move g1.grew) g1.list? (by omega)
   have := Q5u a t hl s0 suf (pre ++ [u]) (A ++ nodesTy a u) x' s2 (pre.length + 1) g2 (by simpa using h) (by simp) (fun w hw => H w (List.mem_cons_of_mem _ hw)) (by rw [List.length_append]; omega)
   rw [Q4S]; rw [Ty.cells_eq] at this ⊢; simp only [go_sem, Nat.reduceAdd, Nat.reduceLeDiff, f1, f2, f3, e1, e2] at this ⊢
   simp only [nodesTys]
   exact this
theorem Q5v : ∀ (m : Nat) (a : Int) (t : Ty) (s : St), t.size ≤ m → t.size < 2^28 → Nodes (cw (.f Q0J) [t.enc, .int .i64 a] s) s (nodesTy a t)
 | 0, a, .mk _ _ _ _ _, _, h, _ => by simp only [Ty.size] at h; omega
 | m + 1, a, .mk k n nm l nl, s, h, h' => by
   simp only [Ty.size] at h h'
   have hl := Ty.len_sizes l
   have := Q5u a (.mk k n nm l nl) (by simp only [Ty.args]; omega) s l [] [.ty (.mk k n nm l nl) a] (.full [(TNode.ty (.mk k n nm l nl) a).enc]) s 0 (AccR.full _ _ _) rfl rfl (fun u hu s => by have := Ty.mem_sizes hu; exact Q5v m a u s (by omega) (by omega)) (by simp only [List.length_singleton]; omega)
   rw [Qc5]; simp only [go_sem, Nat.reduceAdd, Nat.reduceLeDiff, Ty.enc, TNode.cells, Dec.zero, Exp.zero, Pat.zero, Fun.zero, Case.zero, Con.zero, Ty.zero, Con.cells, TNode.enc, nodesTy] at this ⊢
   exact this
theorem Q4Q (t : Pat) (hl : t.kids.length < 2^40) (s0 : St) : ∀ (suf pre : List Pat) (A : List TNode) (x : Slot) (s : St) (i : Nat), NAcc s0 s x A → pre ++ suf = t.kids → i = pre.length → (∀ t ∈ suf, ∀ s, Nodes (cw (.f Q0k) [t.enc] s) s (nodesPat t)) → A.length + Pat.sizes suf < 2^30 →
  Nodes (Q0Y (t.cells.map .val) x (.val (.int .i64 i)) s) s0 (A ++ nodesPats suf)
 | [], pre, A, x, s, i, hx, h, hi, H, hb => by
   subst hi
   rw [Q4b]; simp only [go_sem, Nat.reduceAdd, Nat.reduceLeDiff, Pat.cells_eq, Q8 (by simpa using h), nodesPats]
   exact RetA.mk hx
 | u :: suf, pre, A, x, s, i, hx, h, hi, H, hb => by
   subst hi
   obtain ⟨f1, f2, f3⟩ := Q7 (x := .val (encS t.kb (t.kids.map Pat.enc))) (Qc _ _) h (by omega) (Pat.cells_len u) (by decide)
   obtain ⟨y, s1, e1, g1⟩ := H u (List.mem_cons_self) s
   have hlen := Q2Y u
   simp only [Pat.sizes] at hb
   obtain ⟨x', s2, e2, g2⟩ := nacc (hx.move g1.grew) g1.list? (by omega)
   have := Q4Q t hl s0 suf (pre ++ [u]) (A ++ nodesPat u) x' s2 (pre.length + 1) g2 (by simpa using h) (by simp) (fun w hw => H w (List.mem_cons_of_mem _ hw)) (by rw [List.length_append]; omega)
   rw [Q4b]; rw [Pat.cells_eq] at this ⊢; simp only [go_sem, Nat.reduceAdd, Nat.reduceLeDiff, f1, f2, f3, e1, e2] at this ⊢
   simp only [nodesPats]
   exact this
theorem Q4R : ∀ (m : Nat) (t : Pat) (s : St), t.size ≤ m → t.size < 2^28 → Nodes (cw (.f Q0k) [t.enc] s) s (nodesPat t)
 | 0, .mk _ _ _ _ _ _, _, h, _ => by simp only [Pat.size] at h; omega
 | m + 1, .mk k a nm n l nl, s, h, h' => by
   simp only [Pat.size] at h h'
   have hl := Pat.len_sizes l
   have := Q4Q (.mk k a nm n l nl) (by simp only [Pat.kids]; omega) s l [] [.pat (.mk k a nm n l nl)] (.full [(TNode.pat (.mk k a nm n l nl)).enc]) s 0 (AccR.full _ _ _) rfl rfl (fun u hu s => by have := Pat.mem_sizes hu; exact Q4R m u s (by omega) (by omega)) (by simp only [List.length_singleton]; omega)
   rw [Qbb]; simp only [go_sem, Nat.reduceAdd, Nat.reduceLeDiff, Pat.enc, TNode.cells, Dec.zero, Exp.zero, Pat.zero, Fun.zero, Case.zero, Con.zero, Ty.zero, Con.cells, TNode.enc, nodesPat, Pat.at_] at this ⊢
   exact this
def ofExpOK (t : Exp) : Prop := ∀ s, Nodes (cw (.f ZV) [t.enc] s) s (nodesExp t)
def ofCaseOK (t : Case) : Prop := ∀ s, Nodes (cw (.f Q0I) [t.enc] s) s (nodesCase t)
def ofDecOK (t : Dec) : Prop := ∀ inn s, Nodes (cw (.f ZU) [t.enc, .bool inn] s) s (nodesDec inn t)
theorem Qa8 (p : Pat) (e : Exp) (h : ofExpOK e) (hs : (Case.mk p e).size < 2^28) : ofCaseOK (.mk p e) := fun s => by
 simp only [Case.size] at hs
 obtain ⟨y, s1, e1, g1⟩ := Q4R _ p s (Nat.le_refl _) (by omega)
 obtain ⟨z, s2, e2, g2⟩ := h s1
 have h1 := Q2Y p
 have h2 := Q1H e
 obtain ⟨x', s3, e3, g3⟩ := nacc (g1.move g2.grew) g2.list? (by omega)
 rw [Qa7]; simp only [go_sem, Nat.reduceAdd, Nat.reduceLeDiff, Nat.reduceSub, e1, e2, e3]
 simp only [nodesCase]
 exact RetA.mk g3
theorem Q3h (t : Exp) (hl : t.cases.length < 2^40) (s0 : St) : ∀ (suf pre : List Case) (A : List TNode) (x : Slot) (s : St) (i : Nat), NAcc s0 s x A → pre ++ suf = t.cases → i = pre.length → (∀ t ∈ suf, ofCaseOK t) → A.length + Case.sizes suf < 2^30 →
  Nodes (Q0X (t.cells.map .val) x (.val (.int .i64 i)) s) s0 (A ++ nodesCases suf)
 | [], pre, A, x, s, i, hx, h, hi, H, hb => by
   subst hi
   rw [Q4a]; simp only [go_sem, Exp.cells_eq, Q8 (by simpa using h), nodesCases]
   exact RetA.mk hx
 | u :: suf, pre, A, x, s, i, hx, h, hi, H, hb => by
   subst hi
   obtain ⟨f1, f2, f3⟩ := Q7 (x := .val (encS t.cb (t.cases.map Case.enc))) (Qc _ _) h (by omega) (Case.cells_len u) (by decide)
   obtain ⟨y, s1, e1, g1⟩ := H u (List.mem_cons_self) s
   have hlen := Q1j u
   simp only [Case.sizes] at hb
   obtain ⟨x', s2, e2, g2⟩ := nacc (hx.move g1.grew) g1.list? (by omega)
   have := Q3h t hl s0 suf (pre ++ [u]) (A ++ nodesCase u) x' s2 (pre.length + 1) g2 (by simpa using h) (by simp) (fun w hw => H w (List.mem_cons_of_mem _ hw)) (by rw [List.length_append]; omega)
   rw [Q4a]; rw [Exp.cells_eq] at this ⊢; simp only [go_sem, Nat.reduceLeDiff, f1, f2, f3, e1, e2] at this ⊢
   simp only [nodesCases]
   exact this
theorem Q3g (t : Exp) (hl : t.kids.length < 2^40) (hl2 : t.cases.length < 2^40) (Hc : ∀ c ∈ t.cases, ofCaseOK c) (s0 : St) : ∀ (suf pre : List Exp) (A : List TNode) (x : Slot) (s : St) (i : Nat), NAcc s0 s x A → pre ++ suf = t.kids → i = pre.length → (∀ t ∈ suf, ofExpOK t) → A.length + Exp.sizes suf + Case.sizes t.cases < 2^30 →
  Nodes (Q0W (t.cells.map .val) x (.val (.int .i64 i)) s) s0 (A ++ (nodesExps suf ++ nodesCases t.cases))
 | [], pre, A, x, s, i, hx, h, hi, H, hb => by
   subst hi
   have := Q3h t hl2 s0 t.cases [] A x s 0 hx rfl rfl Hc (by omega)
   rw [Q49]; rw [Exp.cells_eq] at this ⊢; simp only [go_sem, Q8 (by simpa using h), nodesExps] at this ⊢
   exact this
 | u :: suf, pre, A, x, s, i, hx, h, hi, H, hb => by
   subst hi
   obtain ⟨f1, f2, f3⟩ := Q7 (x := .val (encS t.kb (t.kids.map Exp.enc))) (Qc _ _) h (by omega) (Exp.cells_len u) (by decide)
   obtain ⟨y, s1, e1, g1⟩ := H u (List.mem_cons_self) s
   have hlen := Q1H u
   simp only [Exp.sizes] at hb
   obtain ⟨x', s2, e2, g2⟩ := nacc (hx.move g1.grew) g1.list? (by omega)
   have := Q3g t hl hl2 Hc s0 suf (pre ++ [u]) (A ++ nodesExp u) x' s2 (pre.length + 1) g2 (by simpa using h) (by simp) (fun w hw => H w (List.mem_cons_of_mem _ hw)) (by rw [List.length_append]; omega)
   rw [Q49]; rw [Exp.cells_eq] at this ⊢; simp only [go_sem, Nat.reduceLeDiff, f1, f2, f3, e1, e2] at this ⊢
   simp only [go_sem, nodesExps]
   exact this
theorem Q3f (t : Exp) (hl0 : t.decs.length < 2^40) (hl : t.kids.length < 2^40) (hl2 : t.cases.length < 2^40) (He : ∀ c ∈ t.kids, ofExpOK c) (Hc : ∀ c ∈ t.cases, ofCaseOK c) (s0 : St) : ∀ (suf pre : List Dec) (A : List TNode) (x : Slot) (s : St) (i : Nat), NAcc s0 s x A → pre ++ suf = t.decs → i = pre.length → (∀ t ∈ suf, ofDecOK t) → A.length + Dec.sizes suf + Exp.sizes t.kids + Case.sizes t.cases < 2^30 →
  Nodes (Q0V (t.cells.map .val) x (.val (.int .i64 i)) s) s0 (A ++ (nodesDecs true suf ++ (nodesExps t.kids ++ nodesCases t.cases)))
 | [], pre, A, x, s, i, hx, h, hi, H, hb => by
   subst hi
   have := Q3g t hl hl2 Hc s0 t.kids [] A x s 0 hx rfl rfl He (by omega)
   rw [Q48]; rw [Exp.cells_eq] at this ⊢; simp only [go_sem, Nat.reduceAdd, Nat.reduceLeDiff, Q8 (by simpa using h), nodesDecs] at this ⊢
   exact this
 | u :: suf, pre, A, x, s, i, hx, h, hi, H, hb => by
   subst hi
   obtain ⟨f1, f2, f3⟩ := Q7 (x := .val (encS t.db (t.decs.map Dec.enc))) (Qc _ _) h (by omega) (Dec.cells_len u) (by decide)
   obtain ⟨y, s1, e1, g1⟩ := H u (List.mem_cons_self) true s
   have hlen := Q4M true u
   simp only [Dec.sizes] at hb
   obtain ⟨x', s2, e2, g2⟩ := nacc (hx.move g1.grew) g1.list? (by omega)
   have := Q3f t hl0 hl hl2 He Hc s0 suf (pre ++ [u]) (A ++ nodesDec true u) x' s2 (pre.length + 1) g2 (by simpa using h) (by simp) (fun w hw => H w (List.mem_cons_of_mem _ hw)) (by rw [List.length_append]; omega)
   rw [Q48]; rw [Exp.cells_eq] at this ⊢; simp only [go_sem, Nat.reduceAdd, Nat.reduceLeDiff, f1, f2, f3, e1, e2] at this ⊢
   simp only [go_sem, nodesDecs]
   exact this
theorem Q1w (t : Dec) (hl : t.cons.length < 2^40) (s0 : St) : ∀ (suf pre : List Con) (A : List TNode) (x : Slot) (s : St) (i : Nat), NAcc s0 s x A → pre ++ suf = t.cons → i = pre.length → A.length + Con.sizes suf < 2^28 →
  Nodes (Q0d (t.cells.map .val) x (.val (.int .i64 i)) s) s0 (A ++ nodesCons suf)
 | [], pre, A, x, s, i, hx, h, hi, hb => by
   subst hi
   rw [Q25]; simp only [go_sem, Nat.reduceAdd, Nat.reduceLeDiff, Dec.cells_eq, Q8 (by simpa using h), nodesCons]
   exact RetA.mk hx
 | .mk nm a hs arg :: suf, pre, A, x, s, i, hx, h, hi, hb => by
   subst hi
   obtain ⟨f1, f2, f3⟩ := Q7 (x := .val (encS t.nb (t.cons.map Con.enc))) (Qc _ _) h (by omega) (Con.cells_len ⟨nm, a, hs, arg⟩) (by decide)
   have hlen := Q3L a arg
   simp only [Con.sizes, Con.size] at hb
   obtain ⟨x', s2, e2, g2⟩ := nacc (B := [.con ⟨nm, a, hs, arg⟩]) (y := .full [(TNode.con ⟨nm, a, hs, arg⟩).enc]) hx rfl (by simp only [List.length_singleton]; omega)
   cases hs with
   | false =>
     have := Q1w t hl s0 suf (pre ++ [⟨nm, a, false, arg⟩]) (A ++ [.con ⟨nm, a, false, arg⟩]) x' s2 (pre.length + 1) g2 (by simpa using h) (by simp) (by simp only [List.length_append, List.length_singleton]; omega)
     rw [Q25]; rw [Dec.cells_eq] at this ⊢; simp only [go_sem, Nat.reduceAdd, Nat.reduceLeDiff, f1, f2, f3, TNode.cells, Dec.zero, Exp.zero, Pat.zero, Fun.zero, Case.zero, Con.zero, Ty.zero, Con.cells, TNode.enc] at e2 this ⊢
     simp only [go_sem, e2, nodesCons, nodesCon]
     exact this
   | true =>
     obtain ⟨y, s1, e1, g1⟩ := Q5v _ a arg s2 (Nat.le_refl _) (by omega)
     obtain ⟨x3, s3, e3, g3⟩ := nacc (g2.move g1.grew) g1.list? (by simp only [List.length_append, List.length_singleton]; omega)
     have := Q1w t hl s0 suf (pre ++ [⟨nm, a, true, arg⟩]) (A ++ [.con ⟨nm, a, true, arg⟩] ++ nodesTy a arg) x3 s3 (pre.length + 1) g3 (by simpa using h) (by simp) (by simp only [List.length_append, List.length_singleton]; omega)
     rw [Q25]; rw [Dec.cells_eq] at this ⊢; simp only [go_sem, Nat.reduceAdd, Nat.reduceLeDiff, f1, f2, f3, TNode.cells, Dec.zero, Exp.zero, Pat.zero, Fun.zero, Case.zero, Con.zero, Ty.zero, Con.cells, TNode.enc] at e2 this ⊢
     simp only [go_sem, e2, e1, e3, nodesCons, nodesCon]
     exact this
theorem Q3e (t : Dec) (hl : t.funs.length < 2^40) (hl2 : t.cons.length < 2^40) (s0 : St) : ∀ (suf pre : List Fun) (A : List TNode) (x : Slot) (s : St) (i : Nat), NAcc s0 s x A → pre ++ suf = t.funs → i = pre.length → (∀ f ∈ suf, ofCaseOK f.case) → A.length + Fun.sizes suf + Con.sizes t.cons < 2^28 →
  Nodes (Q0U (t.cells.map .val) x (.val (.int .i64 i)) s) s0 (A ++ (nodesFuns suf ++ nodesCons t.cons))
 | [], pre, A, x, s, i, hx, h, hi, H, hb => by
   subst hi
   have := Q1w t hl2 s0 t.cons [] A x s 0 hx rfl rfl (by omega)
   rw [Q47]; rw [Dec.cells_eq] at this ⊢; simp only [go_sem, Nat.reduceAdd, Nat.reduceLeDiff, Q8 (by simpa using h), nodesFuns] at this ⊢
   exact this
 | .mk nm a c :: suf, pre, A, x, s, i, hx, h, hi, H, hb => by
   subst hi
   obtain ⟨f1, f2, f3⟩ := Q7 (x := .val (encS t.fb (t.funs.map Fun.enc))) (Qc _ _) h (by omega) (Fun.cells_len (.mk nm a c)) (by decide)
   have hlen := Q1j c
   simp only [Fun.sizes, Fun.size] at hb
   obtain ⟨x', s2, e2, g2⟩ := nacc (B := [.fn (.mk nm a c)]) (y := .full [(TNode.fn (.mk nm a c)).enc]) hx rfl (by simp only [List.length_singleton]; omega)
   obtain ⟨y, s1, e1, g1⟩ := H (.mk nm a c) (List.mem_cons_self) s2
   simp only [Fun.case] at e1 g1
   obtain ⟨x3, s3, e3, g3⟩ := nacc (g2.move g1.grew) g1.list? (by simp only [List.length_append, List.length_singleton]; omega)
   have := Q3e t hl hl2 s0 suf (pre ++ [.mk nm a c]) (A ++ [.fn (.mk nm a c)] ++ nodesCase c) x3 s3 (pre.length + 1) g3 (by simpa using h) (by simp) (fun w hw => H w (List.mem_cons_of_mem _ hw)) (by simp only [List.length_append, List.length_singleton]; omega)
   rw [Q47]; rw [Dec.cells_eq] at this ⊢; simp only [go_sem, Nat.reduceAdd, Nat.reduceLeDiff, f1, f2, f3, TNode.cells, Dec.zero, Exp.zero, Pat.zero, Fun.zero, Case.zero, Con.zero, Ty.zero, Con.cells, TNode.enc, Fun.at_] at e2 this ⊢
   simp only [go_sem, e2, e1, e3, nodesFuns, nodesFun]
   exact this
theorem Q3d (t : Dec) (hl0 : t.case.length < 2^40) (hl : t.funs.length < 2^40) (hl2 : t.cons.length < 2^40) (Hf : ∀ f ∈ t.funs, ofCaseOK f.case) (s0 : St) : ∀ (suf pre : List Case) (A : List TNode) (x : Slot) (s : St) (i : Nat), NAcc s0 s x A → pre ++ suf = t.case → i = pre.length → (∀ f ∈ suf, ofCaseOK f) → A.length + Case.sizes suf + Fun.sizes t.funs + Con.sizes t.cons < 2^28 →
  Nodes (Q0T (t.cells.map .val) x (.val (.int .i64 i)) s) s0 (A ++ (nodesCases suf ++ (nodesFuns t.funs ++ nodesCons t.cons)))
 | [], pre, A, x, s, i, hx, h, hi, H, hb => by
   subst hi
   have := Q3e t hl hl2 s0 t.funs [] A x s 0 hx rfl rfl Hf (by omega)
   rw [Q46]; rw [Dec.cells_eq] at this ⊢; simp only [go_sem, Q8 (by simpa using h), nodesCases] at this ⊢
   exact this
 | u :: suf, pre, A, x, s, i, hx, h, hi, H, hb => by
   subst hi
   obtain ⟨f1, f2, f3⟩ := Q7 (x := .val (encS t.cb (t.case.map Case.enc))) (Qc _ _) h (by omega) (Case.cells_len u) (by decide)
   obtain ⟨y, s1, e1, g1⟩ := H u (List.mem_cons_self) s
   have hlen := Q1j u
   simp only [Case.sizes] at hb
   obtain ⟨x', s2, e2, g2⟩ := nacc (hx.move g1.grew) g1.list? (by omega)
   have := Q3d t hl0 hl hl2 Hf s0 suf (pre ++ [u]) (A ++ nodesCase u) x' s2 (pre.length + 1) g2 (by simpa using h) (by simp) (fun w hw => H w (List.mem_cons_of_mem _ hw)) (by rw [List.length_append]; omega)
   rw [Q46]; rw [Dec.cells_eq] at this ⊢; simp only [go_sem, Nat.reduceLeDiff, f1, f2, f3, e1, e2] at this ⊢
   simp only [go_sem, nodesCases]
   exact this
theorem Qdh : ∀ m : Nat, (∀ e : Exp, e.size ≤ m → e.size < 2^26 → ofExpOK e) ∧ (∀ l : Dec, l.size ≤ m → l.size < 2^26 → ofDecOK l) := by
 intro m
 induction m with
 | zero =>
   refine ⟨fun e h _ => ?_, fun l h _ => ?_⟩
   ·obtain ⟨k, a, nm, n, l, lb, c, cb, d, db⟩ := e
    simp only [Exp.size] at h; omega
   ·obtain ⟨k, a, nm, p, l, nb, c, cb, f, fb⟩ := l; simp only [Dec.size] at h; omega
 | succ m ih =>
   obtain ⟨ihE, ihD⟩ := ih
   have hcase1 : ∀ t : Case, t.size ≤ m + 1 → t.size < 2^26 → ofCaseOK t := fun t h h' => by
    obtain ⟨p, e⟩ := t
    exact Qa8 p e (ihE e (by simp only [Case.size] at h; omega) (by simp only [Case.size] at h'; omega)) (by omega)
   have hcase : ∀ (c : List Case), Case.sizes c ≤ m + 1 → Case.sizes c < 2^26 → ∀ t ∈ c, ofCaseOK t := fun c h h' t ht => by
    have := Case.mem_sizes ht
    exact hcase1 t (by omega) (by omega)
   refine ⟨fun e h h' s => ?_, fun d h h' inn s => ?_⟩
   ·obtain ⟨k, a, nm, n, l, lb, c, cb, d, db⟩ := e
    simp only [Exp.size] at h h'
    have hl := Exp.len_sizes l
    have hl2 := Case.len_sizes c
    have hl3 := Dec.len_sizes d
    have := Q3f (.mk k a nm n l lb c cb d db) (by simp only [Exp.decs]; omega) (by simp only [Exp.kids]; omega) (by simp only [Exp.cases]; omega) (fun t ht => by have := Exp.mem_sizes ht; simp only [Exp.kids] at this; exact ihE t (by omega) (by omega)) (hcase c (by omega) (by omega)) s d [] [.exp (.mk k a nm n l lb c cb d db)] (.full [(TNode.exp (.mk k a nm n l lb c cb d db)).enc]) s 0 (AccR.full _ _ _) rfl rfl (fun t ht => ihD t (by have := Dec.mem_sizes ht; omega) (by have := Dec.mem_sizes ht; omega)) (by simp only [List.length_singleton, Exp.kids, Exp.cases]; omega)
    rw [Qba]; simp only [go_sem, Nat.reduceAdd, Nat.reduceLeDiff, Exp.enc, TNode.cells, Dec.zero, Exp.zero, Pat.zero, Fun.zero, Case.zero, Con.zero, Ty.zero, Con.cells, TNode.enc, nodesExp, Exp.at_, Exp.kids, Exp.cases] at this ⊢
    exact this
   ·obtain ⟨k, a, nm, p, l, nb, c, cb, f, fb⟩ := d
    simp only [Dec.size] at h h'
    have hl := Con.len_sizes l
    have hl2 := Case.len_sizes c
    have hl3 := Fun.len_sizes f
    have := Q3d (.mk k a nm p l nb c cb f fb) (by simp only [Dec.case]; omega) (by simp only [Dec.funs]; omega) (by simp only [Dec.cons]; omega) (fun t ht => by
     have h2 := Fun.mem_sizes ht
     obtain ⟨nm, a, c'⟩ := t
     simp only [Dec.funs, Fun.size] at h2
     exact hcase1 c' (by omega) (by omega)) s c [] [.dec inn (.mk k a nm p l nb c cb f fb)] (.full [(TNode.dec inn (.mk k a nm p l nb c cb f fb)).enc]) s 0 (AccR.full _ _ _) rfl rfl (hcase c (by omega) (by omega)) (by simp only [List.length_singleton, Dec.funs, Dec.cons]; omega)
    rw [Qb9]; simp only [go_sem, Nat.reduceAdd, Nat.reduceLeDiff, Dec.enc, TNode.cells, Dec.zero, Exp.zero, Pat.zero, Fun.zero, Case.zero, Con.zero, Ty.zero, Con.cells, TNode.enc, nodesDec, Dec.at_, Dec.funs, Dec.cons] at this ⊢
    exact this
theorem Q7c (L : List Dec) (z : Slot) (hz : z.list? = some (L.map Dec.enc)) (hl : L.length < 2^40) (s0 : St) : ∀ (suf pre : List Dec) (A : List TNode) (x : Slot) (s : St) (i : Nat), NAcc s0 s x A → pre ++ suf = L → i = pre.length → A.length + Dec.sizes suf < 2^26 →
  Nodes (Q2c z x (.val (.int .i64 i)) s) s0 (A ++ nodesDecs false suf)
 | [], pre, A, x, s, i, hx, h, hi, hb => by
   subst hi
   rw [Q6f]; simp only [go_sem, hz, Q8 (by simpa using h), nodesDecs]
   exact RetA.mk hx
 | u :: suf, pre, A, x, s, i, hx, h, hi, hb => by
   subst hi
   obtain ⟨f1, f2, f3⟩ := Q7 hz h (by omega) (Dec.cells_len u) (by decide)
   simp only [Dec.sizes] at hb
   obtain ⟨y, s1, e1, g1⟩ := (Qdh u.size).2 u (Nat.le_refl _) (by omega) false s
   have hlen := Q4M false u
   obtain ⟨x', s2, e2, g2⟩ := nacc (hx.move g1.grew) g1.list? (by omega)
   have := Q7c L z hz hl s0 suf (pre ++ [u]) (A ++ nodesDec false u) x' s2 (pre.length + 1) g2 (by simpa using h) (by simp) (by rw [List.length_append]; omega)
   rw [Q6f]; simp only [go_sem, Nat.reduceLeDiff, hz, f1, f2, f3, e1, e2, nodesDecs] at this ⊢
   exact this
theorem Qc6 (l : List Dec) (nl : Bool) (s : St) (h : Dec.sizes l < 2^26) : Nodes (cw (.f Q4p) [encS nl (l.map Dec.enc)] s) s (nodesDecs false l) := by
 have hl := Dec.len_sizes l
 have := Q7c l (.val (encS nl (l.map Dec.enc))) (by simp only [go_sem]) (by omega) s l [] [] (.val .nils) s 0 (AccR.nil _ _) rfl rfl (by simp only [List.length_nil]; omega)
 rw [Qe2]
 exact this
end Go.Proofs.Ytinphnakebeloaa
namespace Go.Proofs.Ytinphnakebeloaa
open Go Go.Am
set_option linter.unusedVariables false
set_option maxRecDepth 4000
theorem Q2w (L : List TNode) (z : Slot) (hz : z.list? = some (L.map TNode.enc)) (hl : L.length < 2^40) : ∀ (suf pre : List TNode) (n : Nat) (s : St) (i : Nat), pre ++ suf = L → i = pre.length → n + suf.length < 2^40 →
  Q0e z (.val (.int .i64 n)) (.val (.int .i64 i)) s = some (.ret (.val (.int .i64 (n + countN suf : Nat))), s)
 | [], pre, n, s, i, h, hi, hb => by
   subst hi
   rw [Q4c]; simp only [go_sem, hz, Q8 (by simpa using h)]; rfl
 | u :: suf, pre, n, s, i, h, hi, hb => by
   subst hi
   obtain ⟨f1, f2, f3⟩ := Q7 hz h (by omega) (TNode.cells_len u) (by decide)
   have hw : IntKind.i64.wrap ((n : Int) + 1) = ((n + 1 : Nat) : Int) := by rw [wrap64 (by omega) (by omega)]; rfl
   simp only [List.length_cons] at hb
   rw [TNode.enc, QfB, TNode.cells_3] at f2
   have h1 := Q2w L z hz hl suf (pre ++ [u]) n s (pre.length + 1) (by simpa using h) (by simp) (by omega)
   have h2 := Q2w L z hz hl suf (pre ++ [u]) (n + 1) s (pre.length + 1) (by simpa using h) (by simp) (by omega)
   rw [Q4c]; simp only [go_sem, hz, f1, f2, f3, TNode.what_isNode, hw, h1, h2]
   cases hu : u.isNode
   ·have e : countN (u :: suf) = countN suf := by simp [countN, hu]
    simp only [go_sem, e]
   ·have e : countN (u :: suf) = countN suf + 1 := by simp [countN, hu]
    simp only [go_sem, e]
    rw [show n + 1 + countN suf = n + (countN suf + 1) by omega]
theorem Q9h (l : List TNode) (v : AV) (hv : (Slot.val v).list? = some (l.map TNode.enc)) (s : St) (h : l.length < 2^39) : cw (.f Q2q) [v] s = some (.ret (.val (.int .i64 (countN l))), s) := by
 rw [Qbc]
 have := Q2w l (.val v) hv (by omega) l [] 0 s 0 rfl rfl (by omega)
 rw [Nat.zero_add] at this
 exact this
theorem Qa9 (l : List Dec) (nl : Bool) (s : St) (h : Dec.sizes l < 2^26) : Ret (cw (.f Q4B) [encS nl (l.map Dec.enc)] s) s (.int .i64 (countN (nodesDecs false l))) := by
 obtain ⟨x, s1, e1, g1⟩ := Qc6 l nl s h
 have hlen := Q2t false l
 obtain ⟨b, hb⟩ := g1.av
 have h3 := Q9h (nodesDecs false l) (encS b ((nodesDecs false l).map TNode.enc)) (by simp only [go_sem]) s1 (by omega)
 rw [Qc7]; simp only [go_sem, e1, Qu hb, h3]
 exact Ret.mk g1.grew
end Go.Proofs.Ytinphnakebeloaa
namespace Go.Proofs.Ytinphnakebeloaa
open Go Go.Am
set_option linter.unusedVariables false
set_option maxRecDepth 4000
theorem Ret.aft {r : Res} {s0 s : St} {v : AV} (h : Ret r s v) (g : Grew s0 s) : Ret r s0 v := by
 obtain ⟨s', e, g'⟩ := h
 exact ⟨s', e, g.trans g'⟩
theorem Q77 {inn : Bool} : ∀ {P : List Dec} {d : Dec}, d ∈ P → .dec inn d ∈ nodesDecs inn P
 | d :: P, e, h => by
   simp only [nodesDecs]
   rcases List.mem_cons.1 h with rfl | h
   ·cases e; simp only [nodesDec]; exact List.mem_append_left _ List.mem_cons_self
   ·exact List.mem_append_right _ (Q77 h)
theorem QfG {P : List Dec} (hs : Dec.sizes P < 2^24) (h : rightN (nodesDecs false P) (deepDecs P 0) = .zero) : ∀ d ∈ P, DecFit d := by
 intro d hd
 have hw : wrongDecB d false = 0 := Q2e h _ (Q77 hd)
 have D := Q9I hw
 have hsz := Dec.mem_sizes hd
 constructor
 ·by_cases h3 : d.kind = 3
  ·have := (D.data h3).2.2.2.1; omega
  ·have := (D.bare h3).1; omega
 ·intro c hc
  have h1 := Con.mem_sizes hc
  have h2 : Con.sizes d.cons ≤ d.size := by
   cases d; simp only [Dec.size, Dec.cons]; omega
  refine Q5b _ ?_
  simp only [Con.size] at h1
  omega
theorem Q6s (P : List Dec) (nl : Bool) (hs : Dec.sizes P < 2^24) (hok : ∀ n ∈ nodesDecs false P, n.ok) (s : St) : Ret (cw (.f ZA) [encS nl (P.map Dec.enc)] s) s (checkD P).enc :=
 Q9j P nl hs (QfG hs) hok s
def fewB (P : List Dec) : Bool := decide ((P.length : Int) ≤ 12) && decide (((countN (nodesDecs false P) : Nat) : Int) ≤ 300)
theorem Qb3 (P : List Dec) (nl : Bool) (hs : Dec.sizes P < 2^24) (s : St) : Ret (cw (.f Q5M) [encS nl (P.map Dec.enc)] s) s (.bool (fewB P)) := by
 obtain ⟨s1, e1, g1⟩ := Qa9 P nl s (by omega)
 rw [QcZ]
 unfold fewB
 by_cases h : (P.length : Int) ≤ 12
 ·refine ⟨s1, ?_, g1⟩
  simp only [go_sem, List.length_map, h, decide_true, e1, Bool.true_and]
 ·refine ⟨s, ?_, .refl s⟩
  simp only [go_sem, List.length_map, decide_eq_false h, Bool.false_and]
def valD (p : Pat) (e : Exp) : Dec := .mk 1 0 [] 0 [] true [.mk p e] false [] true
theorem Q69 (p : Pat) (e : Exp) (s : St) : cw (.f Q1n) [p.enc, e.enc] s = some (.ret (.val (valD p e).enc), s) := by
 rw [Qd0]
 simp only [go_sem, Nat.reduceAdd, Nat.reduceLeDiff, Pat.enc, Exp.enc, Pat.cells_eq, Exp.cells_eq, valD, Dec.enc, Dec.cells_mk, List.map_cons, List.map_nil, Q2V, Q4L, Case.enc, Case.cells_mk, List.cons_append, List.nil_append]
theorem Q7f (l m : List Str) (x y : Slot) (hx : x.list? = some (l.map .str)) (hy : y.list? = some (m.map .str)) (hl : l.length < 2^40) (he : l.length = m.length) (s : St) : ∀ (suf suf' pre pre' : List Str) (i : Nat), pre ++ suf = l → pre' ++ suf' = m → i = pre.length → pre'.length = pre.length →
  Q1l x y (.val (.int .i64 i)) s = some (.ret (.val (.bool (decide (suf = suf')))), s)
 | [], suf', pre, pre', i, hp, hp', hi, hi' => by
   subst hi
   have : suf' = [] := by
    have h1 : l.length = pre.length := by rw [← hp]; simp
    have h2 : m.length = pre'.length + suf'.length := by rw [← hp']; simp
    exact List.eq_nil_of_length_eq_zero (by omega)
   subst this
   rw [Q4T]; simp only [go_sem, hx, List.length_map, Q8 (show pre = l by simpa using hp), decide_true]
 | k :: suf, [], pre, pre', i, hp, hp', hi, hi' => by
   have h1 : l.length = pre.length + (suf.length + 1) := by rw [← hp]; simp
   have h2 : m.length = pre'.length := by rw [← hp']; simp
   omega
 | k :: suf, k' :: suf', pre, pre', i, hp, hp', hi, hi' => by
   subst hi
   obtain ⟨f1, f2, f3⟩ := Q7 hx hp (by omega) (sz := 1) rfl (by decide)
   obtain ⟨f4, f5, f6⟩ := Q7 hy hp' (by omega) (sz := 1) rfl (by decide)
   rw [hi'] at f5
   have ih := Q7f l m x y hx hy hl he s suf suf' (pre ++ [k]) (pre' ++ [k']) (pre.length + 1) (by simpa using hp) (by simpa using hp') (by simp) (by simp [hi'])
   rw [Q4T]
   by_cases e : k = k'
   ·subst e
    simp only [go_sem, Nat.reduceAdd, Nat.reduceLeDiff, hx, List.length_map, f1, f2, f3, f5, decide_true, Bool.not_true, ih, List.cons.injEq, true_and]
   ·have : ¬ (k :: suf = k' :: suf') := fun h => e (List.cons.inj h).1
    simp only [go_sem, Nat.reduceAdd, Nat.reduceLeDiff, hx, List.length_map, f1, f2, f3, f5, decide_eq_false e, Bool.not_false, decide_eq_false this]
theorem Q5w (l m : List Str) (v w : AV) (hv : (Slot.val v).list? = some (l.map .str)) (hw : (Slot.val w).list? = some (m.map .str)) (hl : l.length < 2^40) (s : St) : cw (.f Q1A) [v, w] s = some (.ret (.val (.bool (decide (l = m)))), s) := by
 rw [Qc8]
 by_cases he : l.length = m.length
 ·have e1 := Q7f l m (.val v) (.val w) hv hw hl he s l m [] [] 0 rfl rfl rfl rfl
  rw [show ((0 : Nat) : Int) = 0 from rfl] at e1
  have he' : decide ((l.length : Int) = (m.length : Int)) = true := by simp only [decide_eq_true_eq]; omega
  simp only [go_sem, hv, hw, List.length_map, he', Bool.not_true, e1]
 ·have he' : decide ((l.length : Int) = (m.length : Int)) = false := by simp only [decide_eq_false_iff_not]; omega
  have : ¬ (l = m) := fun h => he (by rw [h])
  simp only [go_sem, hv, hw, List.length_map, he', Bool.not_false, decide_eq_false this]
def kx : Str := [120]
def kpx : Pat := .mk 2 0 kx 0 [] true
def kv : Exp := .mk 2 8 kx 0 [] true [] true [] true
def kint : Exp := .mk 1 0 [] 0 [] true [] true [] true
theorem kc1 : checkD [valD kpx kv] = ⟨16, 8, kx⟩ := by decide +kernel
theorem kc2 : checkD [valD kpx kint, valD kpx kv] = .zero := by decide +kernel
theorem kc3 : freeD kv = [kx] := by decide +kernel
theorem kc4 : bindsD (valD kpx kv) = [kx] := by decide +kernel
theorem kok {P : List Dec} (h : (nodesDecs false P).all (fun n => match n with | .dec _ d => decide (d.name.length < 2^40) | .exp e => decide (e.name.length < 2^40) && decide (e.kids.length < 2^40) && decide (-9223372036854775808 ≤ e.n) && decide (e.n ≤ 9223372036854775807) | .pat p => decide (p.name.length < 2^40) && decide (-9223372036854775808 ≤ p.n) && decide (p.n ≤ 9223372036854775807) | .ty t _ => decide (t.name.length < 2^40) | .fn f => decide (f.name.length < 2^40) | .con c => decide (c.name.length < 2^40)) = true) : ∀ n ∈ nodesDecs false P, n.ok := by
 intro n hn
 have := List.all_eq_true.1 h n hn
 cases n <;> simp only [TNode.ok, Bool.and_eq_true, decide_eq_true_eq] at this ⊢ <;> first | exact this | exact ⟨this.1.1.1, this.1.1.2, this.1.2, this.2⟩ | exact ⟨this.1.1, this.1.2, this.2⟩
theorem Q2v (s : St) : Ret (cw (.f Q2p) [] s) s (.bool true) := by
 have v1 := fun s => Q69 kpx kv s
 have v2 := fun s => Q69 kpx kint s
 obtain ⟨s1, e1, g1⟩ := Q6s [valD kpx kv] false (by decide +kernel) (kok (by decide +kernel)) s
 obtain ⟨s2, e2, g2⟩ := Q6s [valD kpx kint, valD kpx kv] false (by decide +kernel) (kok (by decide +kernel)) s1
 obtain ⟨x3, s3, w3, e3, a3, l3, g3⟩ := Q30 kv (by decide +kernel) (by
  intro n hn
  simp only [kv, nodesExp, nodesExps, nodesCases, nodesDecs, List.nil_append, List.append_nil, List.mem_cons, List.not_mem_nil, or_false] at hn
  subst hn
  simp [TNode.ok, Exp.name, Exp.kids, Exp.n, kx]) s2
 obtain ⟨x4, s4, w4, e4, a4, l4, g4⟩ := Q4U (valD kpx kv) (by decide +kernel) (kok (by decide +kernel)) s3
 rw [kc1] at e1
 rw [kc2] at e2
 rw [kc3] at l3
 rw [kc4] at l4
 have r3 := fun s => Q5w [kx] [kx] w3 (.sl [.str kx]) l3 rfl (by decide) s
 have r4 := fun s => Q5w [kx] [kx] w4 (.sl [.str kx]) l4 rfl (by decide) s
 refine ⟨s4, ?_, ((g1.trans g2).trans g3).trans g4⟩
 simp only [decide_true] at r3 r4
 simp only [valD, kpx, kv, kint, kx, List.map_cons, List.map_nil, Q2V, Q4L, Q3Q, Pat.enc, Pat.cells_mk, Exp.enc, Exp.cells_mk, Dec.enc, Dec.cells_mk, Case.enc, Case.cells_mk, List.cons_append, List.nil_append, TBad.enc, TBad.cells, TBad.zero] at v1 v2 e1 e2 e3 e4 r3 r4
 rw [Qb4]
 simp only [go_sem, Nat.reduceAdd, Nat.reduceLeDiff, v1, v2, e1, e2, e3, e4, r3, r4, Qu a3, Qu a4]
end Go.Proofs.Ytinphnakebeloaa
namespace Go.Am
open Go
@[go_sem] theorem Qpk (b : Bool) (sz : Nat) (x : Slot) (r : List Slot) : gd b (fullO (bslS sz (gdV b x :: r))) = gd b (fullO (bslS sz (x :: r))) := by cases b <;> rfl
end Go.Am
namespace Go.Proofs.Ytinphnakebeloaa
open Go Go.Am
set_option linter.unusedVariables false
set_option maxRecDepth 4000
end Go.Proofs.Ytinphnakebeloaa
namespace Go.Proofs.Ytinphnakebeloaa
open Go Go.Am
set_option linter.unusedVariables false
def ownP (p : Place) : Place := { p with ty := ownTy p.ty }
def dataR (data : Str) (t : List Place) : List Place := (t.filter fun p => decide (p.data = data)).map ownP
def givenR (nm : Str) : Bool := decide (nm = sInt) || decide (nm = sBool) || decide (nm = sUnit) || decide (nm = sExn) || decide (nm = sRef) || decide (nm = sArrow) || decide (nm = sStar)
def dtR (t : List Place) (nm : Str) : Int × Bool := bif givenR nm then (0, false) else match dataR nm t with
 | [] => (0, false)
 | p :: _ => (p.vars, true)
def wrongR1 (t : List Place) (d : Dec) (u : Ty) : Int × Bool := bif decide (d.kind = 3) && decide (u.name = d.name) then (d.params, true) else dtR t u.name
def wrongR (t : List Place) (d : Dec) (u : Ty) : Int × Str :=
 bif decide (u.kind = 1) then (bif !decide (d.kind = 3) || decide (u.n ≥ d.params) then (16, []) else (0, []))
 else bif givenR u.name then (0, []) else bif !(wrongR1 t d u).2 then (8, u.name) else bif !decide ((u.args.length : Int) = (wrongR1 t d u).1) then (19, u.name) else (0, [])
def firstW (t : List Place) (d : Dec) : List Ty → Int × Str
 | [] => (0, [])
 | u :: l => if (wrongR t d u).1 ≠ 0 then wrongR t d u else firstW t d l
def resR (d : Dec) : Ty := bif decide (d.kind = 4) then ofTy sExn [] else .mk 2 0 d.name (bif decide (d.kind = 3) then varsTy d.params.toNat else []) true
def placeR (t : List Place) (d : Dec) (i : Nat) (c : Con) : Place :=
 ⟨c.name, bif decide (d.kind = 4) then sExn else d.name, bif decide (d.kind = 4) then (exns t : Nat) else (i : Int), bif decide (d.kind = 4) then 0 else (d.cons.length : Int), c.has, bif decide (d.kind = 4) then 0 else d.params, bif c.has then fnTy c.arg (resR d) else resR d⟩
def conBadR (t : List Place) (d : Dec) (out : List Place) (c : Con) : Int × Str :=
 if (findD c.name out).isSome then (9, c.name) else bif decide (d.kind = 4) && decide (((exns t : Nat) : Int) > 1023) then (19, c.name) else bif c.has then firstW t d (preTy c.arg) else (0, [])
def consR (t : List Place) (d : Dec) : List Con → Nat → List Place → List Place × TBad
 | [], _, out => (out, .zero)
 | c :: l, i, out => if (conBadR t d out c).1 ≠ 0 then ([], ⟨(conBadR t d out c).1, c.at_, (conBadR t d out c).2⟩) else consR t d l (i + 1) (out ++ [placeR t d i c])
def addR (t : List Place) (d : Dec) : List Place × TBad :=
 bif !decide (d.kind = 3) && !decide (d.kind = 4) then (t.map ownP, .zero)
 else bif decide (d.kind = 3) && ((dtR t d.name).2 || givenR d.name) then ([], ⟨9, d.at_, d.name⟩)
 else consR t d d.cons 0 (t.map ownP)
end Go.Proofs.Ytinphnakebeloaa
namespace Go.Proofs.Ytinphnakebeloaa
open Go Go.Am
set_option linter.unusedVariables false
set_option maxRecDepth 4000
def TabFit (t : List Place) : Prop := t.length < 2^26 ∧ ∀ p ∈ t, p.ty.size < 2^27
theorem TabFit.wide {t : List Place} (h : TabFit t) : ∀ p ∈ t, WideTy p.ty := fun p hp => Q5b _ (by have := h.2 p hp; omega)
end Go.Proofs.Ytinphnakebeloaa
namespace Go.Proofs.Ytinphnakebeloaa
open Go Go.Am
set_option linter.unusedVariables false
set_option maxRecDepth 4000
section
variable (t : List Place) (d : Dec) (v : AV) (s0 : St)
theorem TabFit.own {t : List Place} (h : TabFit t) : TabFit (t.map ownP) := ⟨by rw [List.length_map]; exact h.1, fun p hp => by
 obtain ⟨q, hq, rfl⟩ := List.mem_map.1 hp
 simp only [ownP, Qa0]; exact h.2 q hq⟩
end
end Go.Proofs.Ytinphnakebeloaa
namespace Go.Proofs.Ytinphnakebeloaa
open Go Go.Am
set_option linter.unusedVariables false
def conR (t : List Place) (nm : Str) (a k : Int) : TBad := match findD nm t with
 | none => ⟨17, a, nm⟩
 | some p => if p.has ≠ decide (k = 1) then ⟨19, a, nm⟩ else .zero
def thenB (a b : TBad) : TBad := bif decide (a.kind = 0) then b else a
theorem Q52 {a : TBad} (h : a.kind = 0) (b : TBad) : thenB a b = b := by unfold thenB; rw [decide_eq_true h]; rfl
theorem Q3W {a : TBad} (h : a.kind ≠ 0) (b : TBad) : thenB a b = a := by unfold thenB; rw [decide_eq_false h]; rfl
def namesR (d : Dec) : List Str := bif decide (d.kind = 1) && decide ((d.case.length : Int) = 1) then varsCases d.case else bif decide (d.kind = 2) then d.funs.map Fun.name else []
section
variable (t : List Place)
mutual
def patR : Pat → List Str → TBad × List Str
 | .mk k a nm _ l _, names =>
   bif (decide (k = 2) || decide (k = 6)) && decide (nm ∈ names) then (⟨9, a, nm⟩, names)
   else bif decide (k = 4) && !decide ((conR t nm a l.length).kind = 0) then (conR t nm a l.length, names)
   else patsR l (bif decide (k = 2) || decide (k = 6) then names ++ [nm] else names)
def patsR : List Pat → List Str → TBad × List Str
 | [], names => (.zero, names)
 | p :: l, names => bif decide ((patR p names).1.kind = 0) then patsR l (patR p names).2 else ((patR p names).1, names)
end
mutual
def oneR : Case → List Str → TBad
 | .mk p e, bd => thenB (patR t p []).1 (expR e (bd ++ (patR t p []).2))
def expR : Exp → List Str → TBad
 | .mk k a nm _ l _ c _ d _, bd =>
   bif decide (k = 2) && !decide (nm ∈ bd) then ⟨16, a, nm⟩
   else bif decide (k = 3) && !decide ((conR t nm a l.length).kind = 0) then conR t nm a l.length
   else thenB (decsR d bd) (thenB (expsR l (bd ++ d.flatMap namesR)) (onesR c (bd ++ d.flatMap namesR)))
def expsR : List Exp → List Str → TBad
 | [], _ => .zero
 | e :: l, bd => thenB (expR e bd) (expsR l bd)
def onesR : List Case → List Str → TBad
 | [], _ => .zero
 | c :: l, bd => thenB (oneR c bd) (onesR l bd)
def decsR : List Dec → List Str → TBad
 | [], _ => .zero
 | d :: r, bd => thenB (decR d bd) (decsR r (bd ++ namesR d))
def decR : Dec → List Str → TBad
 | .mk k a s p l lb c cb f fb, bd => bif decide (k = 1) then valR c bd else funsR f (bd ++ namesR (.mk k a s p l lb c cb f fb)) []
def valR : List Case → List Str → TBad
 | [], _ => .zero
 | .mk p e :: _, bd => thenB (patR t p []).1 (expR e bd)
def funsR : List Fun → List Str → List Str → TBad
 | [], _, _ => .zero
 | .mk nm a c :: r, bd, had => bif decide (nm ∈ had) then ⟨9, a, nm⟩ else thenB (oneR c bd) (funsR r bd (had ++ [nm]))
end
end
def chkR : List Dec → List Place → List Str → TBad
 | [], _, _ => .zero
 | d :: r, t, bd => thenB (decR t d bd) (chkR r (addR t d).1 (bd ++ namesR d))
mutual
def freeR : Exp → List Str → List Str → List Str
 | .mk k _ nm _ l _ c _ d _, bd, found => freeCases c (freeDecs d bd (bif decide (k = 2) && !decide (nm ∈ bd) && !decide (nm ∈ found) then found ++ [nm] else found)).1 (freeExps l (freeDecs d bd (bif decide (k = 2) && !decide (nm ∈ bd) && !decide (nm ∈ found) then found ++ [nm] else found)).1 (freeDecs d bd (bif decide (k = 2) && !decide (nm ∈ bd) && !decide (nm ∈ found) then found ++ [nm] else found)).2)
def freeExps : List Exp → List Str → List Str → List Str
 | [], _, found => found
 | e :: l, bd, found => freeExps l bd (freeR e bd found)
def freeCases : List Case → List Str → List Str → List Str
 | [], _, found => found
 | .mk p e :: l, bd, found => freeCases l bd (freeR e (bd ++ varsPat p) found)
def freeDecs : List Dec → List Str → List Str → List Str × List Str
 | [], bd, found => (bd, found)
 | .mk k a s p l lb c cb f fb :: r, bd, found => freeDecs r (bd ++ namesR (.mk k a s p l lb c cb f fb)) (freeFuns f (bd ++ namesR (.mk k a s p l lb c cb f fb)) (bif decide (k = 1) then freeVal c bd found else found))
def freeVal : List Case → List Str → List Str → List Str
 | [], _, found => found
 | .mk _ e :: _, bd, found => freeR e bd found
def freeFuns : List Fun → List Str → List Str → List Str
 | [], _, found => found
 | .mk _ _ c :: r, bd, found => freeFuns r bd (freeCase c bd found)
def freeCase : Case → List Str → List Str → List Str
 | .mk p e, bd, found => freeR e (bd ++ varsPat p) found
end
end Go.Proofs.Ytinphnakebeloaa