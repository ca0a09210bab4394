/- A part of the proof: SScope7, PWithin, PRight, PTree2, SRef2, SRef3, SRef4. -/
import Derived.Test.YtinphnakebeloaaGreatM6
import Derived.Test.YtinphnakebeloaaGreatM7
import Derived.Test.YtinphnakebeloaaGreatM8
import Derived.Test.YtinphnakebeloaaGreatM12
import Derived.Lib.IndexMore
set_option linter.unusedVariables false
set_option linter.unusedSimpArgs false
namespace Go.Proofs.YtinphnakebeloaaGreat
open Go Go.Am
set_option linter.unusedVariables false
set_option maxRecDepth 4000
theorem Qg2 {v : AV} {l : List AV} (hv : (Slot.val v).list? = some l) : (Slot.val v).cellOk = true ∧ v.cells = [v] := by
 cases v <;> simp [Slot.list?] at hv <;> exact ⟨rfl, rfl⟩
section
variable {wl kl vl tl : Nat}
theorem ChkR.set {t t' : List Place} (h2 : wl ≠ tl) (h3 : vl ≠ tl) {n : Nat} {st : Option TBad} {h : List Nat} {s : St} (w : ChkR t wl kl vl tl n st h s) {v : AV} (hv : (Slot.val v).list? = some (t'.map Place.enc)) :
  stV s (.val (.vp tl 0)) [.val v] = some { s with locs := s.locs.set tl (.var [.val v]) } ∧ ChkR t' wl kl vl tl n st h { s with locs := s.locs.set tl (.var [.val v]) } ∧ Moves [wl, vl, tl] h h s { s with locs := s.locs.set tl (.var [.val v]) } := by
 obtain ⟨rfl, c1, c2, x, v0, c3, c4, c5⟩ := w
 refine ⟨by rw [Q2q c3 (by simp)]; rfl, ⟨rfl, ?_, ?_, .val v, v, Q9B c3, rfl, hv⟩, (Moves.refl _ _ _).setLoc (.inl (by simp)) _⟩
 ·simp only; rw [List.getElem?_set_ne (Ne.symm h2)]; exact c1
 ·simp only; rw [List.getElem?_set_ne (Ne.symm h3)]; exact c2
theorem Q6l (h1 : wl ≠ vl) (h2 : wl ≠ tl) (h3 : vl ≠ tl) (hk : kl ≠ wl ∧ kl ≠ vl ∧ kl ≠ tl) (P : List Dec) (hP : P.length < 2^40) (hsz : ∀ d ∈ P, d.size < 2^26) (y : Slot) (hy : y.list? = some (P.map Dec.enc)) : ∀ (suf pre : List Dec) (t : List Place) (n : Nat) (st : Option TBad) (bd : List Str) (s : St) (i : Nat), pre ++ suf = P → i = pre.length → (∀ d ∈ suf, DecFit d) → t.length + consOf suf < 2^26 → (∀ p ∈ t, WideTy p.ty) → RW (ChkR t wl kl vl tl) kl (n + 2 * Dec.sizes suf) st bd [] s →
  ∃ s', Q1w zb (.val (.vp tl 0)) (.val (.vp vl 0)) y (.val (.int .i64 P.length)) (.val (.int .i64 i)) s = some (.ret (.val ((chkDecs suf t bd st).2.getD .zero).enc), s') ∧ Moves (kl :: [wl, vl, tl]) [] [] s s'
 | [], pre, t, n, st, bd, s, i, hp, hi, hF, hl, hw, w => by
   subst hi
   refine ⟨s, ?_, .refl _ _ _⟩
   obtain ⟨-, c1, c2, -⟩ := w.r
   have f1 : ldV (C.ti QL) false s (.val (.vp vl 0)) = some (.val (.vp wl 0)) := by rw [Zi c2]; simp only [go_sem, Nat.reduceAdd, Nat.reduceLeDiff]
   have f2 := fun t off => Zi (t := t) (off := off) c1
   rw [Q5m]; simp only [go_sem, Nat.reduceAdd, Nat.reduceLeDiff, Q8 (by simpa using hp), f1, f2, wcells, zb, chkDecs, TBad.enc, TBad.cells]
 | d :: suf, pre, t, n, st, bd, s, i, hp, hi, hF, hl, hw, w => by
   subst hi
   obtain ⟨f1, f2, f3⟩ := Q6 hy hp (by omega) (Dec.cells_len d) (by decide)
   obtain ⟨hf1, hf2⟩ := hF d List.mem_cons_self
   simp only [consOf] at hl
   simp only [Dec.sizes] at w
   have H := QlC h1 h2 hk (t := t) (by omega) hw
   obtain ⟨s1, h', bf, bc, ns, e1, w1, m1, -, -⟩ := (Q4y H d.size).2.2 d (Nat.le_refl _) (hsz d (by rw [← hp]; simp)) (n + 2 * Dec.sizes suf) st bd [] s (w.le H (by omega))
   obtain rfl : h' = [] := w1.r.1
   obtain ⟨-, c1, c2, x, v, c3, c4, c5⟩ := w1.r
   obtain ⟨s2, u, e2, hu, g2⟩ := Q8w t d (by omega) hw hf1 (by omega) hf2 v c5 s1
   have w2 := w1.grew H g2
   obtain ⟨e3, r3, m3⟩ := ChkR.set (t' := (addD t d).1) h2 h3 w2.r hu
   have hlen := Qez t d
   have w3 : RW (ChkR (addD t d).1 wl kl vl tl) kl (n + 2 * Dec.sizes suf) (scDec (chkI t) d bd st).2 (scDec (chkI t) d bd st).1 [] { s2 with locs := s2.locs.set tl (.var [.val u]) } := ⟨r3, w2.kn.moves m3 (by simp [hk]), w2.few⟩
   obtain ⟨s4, e4, m4⟩ := Q6l h1 h2 h3 hk P hP hsz y hy suf (pre ++ [d]) (addD t d).1 n _ _ _ (pre.length + 1) (by simpa using hp) (by simp) (fun q hq => hF q (List.mem_cons_of_mem _ hq)) (by omega) (Qde t d hf1 hf2 hw) w3
   refine ⟨s4, ?_, ((m1.trans (Moves.grew _ _ g2)).trans (m3.wider (by simp +contextual))).trans m4⟩
   obtain ⟨-, -, c2', -⟩ := w.r
   have f4 : ldV (C.ti QL) false s (.val (.vp vl 0)) = some (.val (.vp wl 0)) := by rw [Zi c2']; simp only [go_sem, Nat.reduceAdd, Nat.reduceLeDiff]
   have f5 : ldV (C.ti Zr) false s1 (.val (.vp tl 0)) = some x := by rw [Zi c3]; simp only [go_sem, Nat.reduceAdd, Nat.reduceLeDiff]
   rw [Q5m]
   simp only [chkDecs]
   rw [← e4]
   simp only [Dec.enc, Dec.cells_eq] at e1 e2
   simp only [go_sem, Nat.reduceAdd, Nat.reduceLeDiff, f1, f2, f3, f4, f5, Dec.cells_eq, e1, Qh c4, e2, e3, (Qg2 hu).1]
end
@[go_sem] theorem Qrn (n : Nat) : (AV.mp n).cells = [.mp n] := id rfl
@[go_sem] theorem QrT (n : Nat) : (AV.mp n).isTup = false := id rfl
@[go_sem] theorem Qof : AV.nilf.cells = [.nilf] := id rfl
@[go_sem] theorem Qor : AV.nilf.isTup = false := id rfl
def four (s : St) (a b c d : Am.Obj) : St := (((s.addLoc a).addLoc b).addLoc c).addLoc d
theorem Q1C (s : St) (a b c d : Am.Obj) : (four s a b c d).locs = s.locs ++ [a, b, c, d] := by simp [four, St.addLoc]
theorem QhS (s : St) (a b c d : Am.Obj) : Grew s (four s a b c d) := ((((Grew.refl s).addLoc a).addLoc b).addLoc c).addLoc d
theorem QlE (s : St) (a b c d : Am.Obj) : (four s a b c d).locs[s.locs.length]? = some a := by rw [Q1C]; simp
theorem QlF (s : St) (a b c d : Am.Obj) : (four s a b c d).locs[s.locs.length + 1]? = some b := by rw [Q1C, List.getElem?_append_right (by omega)]; simp
theorem QeR (s : St) (a b c d : Am.Obj) : (four s a b c d).locs[s.locs.length + 1 + 1]? = some c := by rw [Q1C, List.getElem?_append_right (by omega), show s.locs.length + 1 + 1 - s.locs.length = 2 by omega]; rfl
theorem QeS (s : St) (a b c d : Am.Obj) : (four s a b c d).locs[s.locs.length + 1 + 1 + 1]? = some d := by rw [Q1C, List.getElem?_append_right (by omega), show s.locs.length + 1 + 1 + 1 - s.locs.length = 3 by omega]; rfl
theorem Qgv (s : St) (a b c d e : Am.Obj) : ({ (four s a b c d) with locs := (four s a b c d).locs.set (s.locs.length + 1 + 1) e } : St) = four s a b e d := by
 have h1 : (four s a b e d).toks = (four s a b c d).toks := rfl
 have h2 : (four s a b c d).locs.set (s.locs.length + 1 + 1) e = (four s a b e d).locs := by
  rw [Q1C, Q1C, List.set_append_right _ _ (by omega), show s.locs.length + 1 + 1 - s.locs.length = 2 by omega]; rfl
 rw [h2]; rfl
theorem QjT (s : St) (a b c d e : Am.Obj) : ({ (four s a b c d) with locs := (four s a b c d).locs.set (s.locs.length + 1 + 1 + 1) e } : St) = four s a b c e := by
 have h2 : (four s a b c d).locs.set (s.locs.length + 1 + 1 + 1) e = (four s a b c e).locs := by
  rw [Q1C, Q1C, List.set_append_right _ _ (by omega), show s.locs.length + 1 + 1 + 1 - s.locs.length = 3 by omega]; rfl
 rw [h2]; rfl
theorem Qbc (P : List Dec) (nl : Bool) (hs : Dec.sizes P < 2^24) (hF : (rightN (nodesDecs false P) (deepDecs P 0)) = .zero → ∀ d ∈ P, DecFit d) (hok : ∀ n ∈ nodesDecs false P, n.ok) (s : St) : Ret (cw (.f Q0B) [encS nl (P.map Dec.enc)] s) s (checkD P).enc := by
 obtain ⟨s1, e1, g1⟩ := Q77 P nl s (by omega) hok
 unfold checkD
 by_cases hr : rightN (nodesDecs false P) (deepDecs P 0) = .zero
 ·rw [if_neg (by simpa using hr)]
  obtain ⟨s2, w2, e2, hw2, g2⟩ := QeL P nl (hF hr) (by omega) s1
  rw [hr] at e1
  by_cases ho : (ofD P startD).2 = .zero
  ·rw [if_neg (by simpa using ho)]
   rw [ho] at e2
   obtain ⟨s3, e3, g3⟩ := Q6K s2
   let c0 : AV → AV → List Slot := fun x y => wcells (s3.locs.length + 1) .zero x y false false
   let F1 : AV := .fn Q0K [.vp (s3.locs.length + 1 + 1 + 1) 0]
   let F2 : AV := .fn Q0L [.vp s3.locs.length 0, .vp (s3.locs.length + 1 + 1 + 1) 0]
   let o1 : Am.Obj := .var [.full (startD.map Place.enc)]
   let S := fun (x y p : AV) => four s3 o1 (.map [] 0) (.var (c0 x y)) (.var [.val p])
   have k1 : stV (S .nilf .nilf .nilp) (.val (.vp (s3.locs.length + 1 + 1 + 1) 0)) [.val (.vp (s3.locs.length + 1 + 1) 0)] = some (S .nilf .nilf (.vp (s3.locs.length + 1 + 1) 0)) := by
    rw [Q2q (QeS _ _ _ _ _) (by simp), QjT]; rfl
   have k2 : ∀ x y, ldV (C.ti QL) false (S x y (.vp (s3.locs.length + 1 + 1) 0)) (.val (.vp (s3.locs.length + 1 + 1 + 1) 0)) = some (.val (.vp (s3.locs.length + 1 + 1) 0)) := fun x y => by
    rw [Zi (QeS _ _ _ _ _)]; simp only [go_sem, Nat.reduceAdd, Nat.reduceLeDiff]
   have k3 : stV (S .nilf .nilf (.vp (s3.locs.length + 1 + 1) 0)) (.val (.vp (s3.locs.length + 1 + 1) 5)) [.val F1] = some (S .nilf F1 (.vp (s3.locs.length + 1 + 1) 0)) := by
    rw [Q2q (QeR _ _ _ _ _) (by simp [c0, wcells]), Qgv]; rfl
   have k4 : stV (S .nilf F1 (.vp (s3.locs.length + 1 + 1) 0)) (.val (.vp (s3.locs.length + 1 + 1) 4)) [.val F2] = some (S F2 F1 (.vp (s3.locs.length + 1 + 1) 0)) := by
    rw [Q2q (QeR _ _ _ _ _) (by simp [c0, wcells]), Qgv]; rfl
   have r0 : ChkR startD (s3.locs.length + 1 + 1) (s3.locs.length + 1) (s3.locs.length + 1 + 1 + 1) s3.locs.length (0 + 2 * Dec.sizes P) none [] (S F2 F1 (.vp (s3.locs.length + 1 + 1) 0)) := ⟨rfl, QeR _ _ _ _ _, QeS _ _ _ _ _, _, .sl (startD.map Place.enc), QlE _ _ _ _ _, rfl, rfl⟩
   have n0 : KN (S F2 F1 (.vp (s3.locs.length + 1 + 1) 0)) (s3.locs.length + 1) [] := ⟨_, ⟨[], 0, [], QlF _ _ _ _ _, .nil⟩, fun k => by simp⟩
   have hlen := Dec.len_sizes P
   have hc := Q9b P
   obtain ⟨s4, e4, m4⟩ := Q6l (wl := s3.locs.length + 1 + 1) (kl := s3.locs.length + 1) (vl := s3.locs.length + 1 + 1 + 1) (tl := s3.locs.length) (by omega) (by omega) (by omega) (by omega) P (by omega) (fun d hd => by have := Dec.mem_sizes hd; omega) (.val (encS nl (P.map Dec.enc))) (Q9 _ _) P [] startD 0 none [] (S F2 F1 (.vp (s3.locs.length + 1 + 1) 0)) 0 rfl rfl (hF hr) (by simp only [startD, List.length_cons, List.length_nil]; omega) Qaw ⟨r0, n0, by simp only [List.length_nil]; omega⟩
   refine ⟨s4, ?_, ((g1.trans g2).trans g3).trans ((Moves.grew [] [] (QhS s3 _ _ _ _)).next m4 fun i hi => .inr ?_).toGrew⟩
   ·rw [show ((0 : Nat) : Int) = 0 from rfl] at e4
    rw [← e4]
    simp only [TBad.enc, TBad.cells, TBad.zero] at e1 e2
    rw [Q4x]
    simp only [S, four, F1, F2, o1, c0, wcells, TBad.zero] at k1 k2 k3 k4 ⊢
    simp only [go_sem, Nat.reduceAdd, Nat.reduceLeDiff, e1, e2, e3, Q1I, decide_eq_true (Eq.refl (TBad.mk 0 0 [])), Bool.not_true, k1, k2, k3, k4, List.length_map, zb]
   ·simp only [List.mem_cons, List.not_mem_nil, or_false] at hi
    omega
  ·rw [if_pos (by simpa using ho)]
   refine ⟨s2, ?_, g1.trans g2⟩
   revert e2 ho
   generalize (ofD P startD).2 = b
   intro e2 ho
   obtain ⟨k, a, nm⟩ := b
   rw [Q4x]
   simp only [TBad.enc, TBad.cells, TBad.zero] at e1 e2 ho
   simp only [go_sem, Nat.reduceAdd, Nat.reduceLeDiff, e1, e2, Q1I, decide_eq_true (Eq.refl (TBad.mk 0 0 [])), Bool.not_true, decide_eq_false ho, Bool.not_false, TBad.enc, TBad.cells]
 ·rw [if_pos (by simpa using hr)]
  refine ⟨s1, ?_, g1⟩
  revert e1 hr
  generalize rightN (nodesDecs false P) (deepDecs P 0) = b
  intro e1 hr
  obtain ⟨k, a, nm⟩ := b
  rw [Q4x]
  simp only [TBad.enc, TBad.cells, TBad.zero] at e1 hr
  simp only [go_sem, Nat.reduceAdd, Nat.reduceLeDiff, e1, Q1I, decide_eq_false hr, Bool.not_false, TBad.enc, TBad.cells]
theorem Qh3 {x : Slot} {v : AV} {l : List AV} (h : x.av = some v) (g : (Slot.val v).list? = some l) : x.list? = some l := by
 cases x with
 | und => cases h
 | no => cases h
 | val w => cases h; exact g
 | own k e m => cases h; exact g
 | full m => cases h; exact g
def RetL (r : Res) (s0 : St) (l : List Str) : Prop := ∃ x s' v, r = some (.ret x, s') ∧ x.av = some v ∧ (Slot.val v).list? = some (l.map .str) ∧ Grew s0 s'
section
variable (wl kl ol : Nat)
def FreeR (n : Nat) (out : List Str) (h : List Nat) (s : St) : Prop := s.locs[wl]? = some (.var (wcells kl .zero (.fn Q1a []) (.fn Q0g [.vp ol 0]) false true)) ∧ NamesAt ol s out h ∧ out.length + n < 2^28
variable {wl kl ol}
theorem Qa4 {s : St} {l : List Str} {h : List Nat} (n : NamesAt ol s l h) (hl : l.length < 2^28) (nm : Str) (a : Int) :
  ∃ s' h', cw (.f Q0g) [.str nm, .int .i64 a, .vp ol 0] s = some (.ret (.val (.tup [])), s') ∧ NamesAt ol s' (addS l nm) h' ∧ Moves [ol] h h' s s' := by
 obtain ⟨x, x', s1, s', h', h1, ⟨v, hv, hv2⟩, e1, hc, e2, n2, m2⟩ := n.push hl nm
 have e3 := Q56 nm l v hv2 (by omega) s
 have e4 : ldV (C.ti Qe) false s (.val (.vp ol 0)) = some x := by rw [Zi h1]; simp only [go_sem, Nat.reduceAdd, Nat.reduceLeDiff]
 by_cases hm : nm ∈ l
 ·refine ⟨s, h, ?_, by rw [addS, if_pos hm]; exact n, .refl _ _ _⟩
  rw [Q6W]
  simp only [go_sem, Nat.reduceAdd, e4, Qh hv, e3, hm, decide_true, Bool.not_true]
 ·refine ⟨s', h', ?_, by rw [addS, if_neg hm]; exact n2, m2⟩
  rw [Q6W]
  simp only [go_sem, Nat.reduceAdd, e4, Qh hv, e3, hm, decide_false, Bool.not_false, e1, hc, e2]
theorem QjX (h1 : wl ≠ ol) (hk : kl ≠ wl ∧ kl ≠ ol) : ScOK freeI wl kl [wl, ol] Q1a [] Q0g [.vp ol 0] (FreeR wl kl ol) where
 cell := fun {n st h s} w => ⟨_, _, w.1⟩
 con := fun {n st h s} nm a k w => ⟨s, h, by rw [Qc6]; simp only [go_sem], ⟨w.1, w.2.1, by have := w.2.2; simp only [freeI]; omega⟩, .refl _ _ _⟩
 free := fun {n st h s} nm a w => by
  obtain ⟨c1, c2, c3⟩ := w
  obtain ⟨s2, h2, e2, n2, m2⟩ := Qa4 c2 (by omega) nm a
  have hle : (addS st nm).length ≤ st.length + 1 := by unfold addS; split <;> simp
  exact ⟨s2, h2, e2, ⟨m2.loc c1 (by simpa using h1), n2, by simp only [freeI]; omega⟩, m2.wider (by simp)⟩
 fail := fun {n st h s} e nm a w => ⟨s, h, Q74 w.1 rfl e a nm, ⟨w.1, w.2.1, by have := w.2.2; simp only [freeI]; omega⟩, .refl _ _ _⟩
 stab := fun {n st h s s'} w hl ht => ⟨by rw [hl wl (by simp)]; exact w.1, w.2.1.stab (hl ol (by simp)) ht, w.2.2⟩
 held := fun {n st h s} w => w.2.1.held
 low := fun {n st h s} w i hi => by
  simp only [List.mem_cons, List.not_mem_nil, or_false] at hi
  rcases hi with rfl | rfl
  ·exact (List.getElem?_eq_some_iff.1 w.1).1
  ·exact w.2.1.lt
 le := fun {n m st h s} w k => ⟨w.1, w.2.1, by have := w.2.2; omega⟩
 wA := by simp
 kA := by simp [hk]
end
def three (s : St) (a b c : Am.Obj) : St := ((s.addLoc a).addLoc b).addLoc c
theorem Q3Z (s : St) (a b c : Am.Obj) : (three s a b c).locs = s.locs ++ [a, b, c] := by simp [three, St.addLoc]
theorem Qhd (s : St) (a b c : Am.Obj) : Grew s (three s a b c) := (((Grew.refl s).addLoc a).addLoc b).addLoc c
theorem Qkb (s : St) (a b c : Am.Obj) : (three s a b c).locs[s.locs.length]? = some a := by rw [Q3Z]; simp
theorem Qkc (s : St) (a b c : Am.Obj) : (three s a b c).locs[s.locs.length + 1]? = some b := by rw [Q3Z, List.getElem?_append_right (by omega)]; simp
theorem Q9W (s : St) (a b c : Am.Obj) : (three s a b c).locs[s.locs.length + 1 + 1]? = some c := by rw [Q3Z, List.getElem?_append_right (by omega), show s.locs.length + 1 + 1 - s.locs.length = 2 by omega]; rfl
theorem Qbd (s : St) (a b c e : Am.Obj) : ({ (three s a b c) with locs := (three s a b c).locs.set (s.locs.length + 1 + 1) e } : St) = three s a b e := by
 have h2 : (three s a b c).locs.set (s.locs.length + 1 + 1) e = (three s a b e).locs := by
  rw [Q3Z, Q3Z, List.set_append_right _ _ (by omega), show s.locs.length + 1 + 1 - s.locs.length = 2 by omega]; rfl
 rw [h2]; rfl
theorem Q6X (e : Exp) (hs : e.size < 2^24) (hok : ∀ n ∈ nodesExp e, n.ok) (s : St) : RetL (cw (.f Q3w) [e.enc] s) s (freeD e) := by
 obtain ⟨s1, e1, g1⟩ := Q9E e s (by omega) hok
 unfold freeD
 by_cases hr : rightN (nodesExp e) (deepExp e) = .zero
 ·rw [if_neg (by simpa using hr)]
  rw [hr] at e1
  let c0 : AV → AV → Bool → List Slot := fun x y q => wcells (s1.locs.length + 1) .zero x y false q
  let F1 : AV := .fn Q0g [.vp s1.locs.length 0]
  let F2 : AV := .fn Q1a []
  let S := fun (x y : AV) (q : Bool) => three s1 (.var [.val .nils]) (.map [] 0) (.var (c0 x y q))
  have k1 : stV (S .nilf .nilf false) (.val (.vp (s1.locs.length + 1 + 1) 5)) [.val F1] = some (S .nilf F1 false) := by
   rw [Q2q (Q9W _ _ _ _) (by simp [c0, wcells]), Qbd]; rfl
  have k2 : stV (S .nilf F1 false) (.val (.vp (s1.locs.length + 1 + 1) 4)) [.val F2] = some (S F2 F1 false) := by
   rw [Q2q (Q9W _ _ _ _) (by simp [c0, wcells]), Qbd]; rfl
  have k3 : stV (S F2 F1 false) (.val (.vp (s1.locs.length + 1 + 1) 7)) [.val (.bool true)] = some (S F2 F1 true) := by
   rw [Q2q (Q9W _ _ _ _) (by simp [c0, wcells]), Qbd]; rfl
  have r0 : FreeR (s1.locs.length + 1 + 1) (s1.locs.length + 1) s1.locs.length (0 + 2 * e.size) [] [] (S F2 F1 true) := ⟨Q9W _ _ _ _, ⟨_, Qkb _ _ _ _, .inl ⟨rfl, rfl, rfl⟩⟩, by simp only [List.length_nil]; omega⟩
  have n0 : KN (S F2 F1 true) (s1.locs.length + 1) [] := ⟨_, ⟨[], 0, [], Qkc _ _ _ _, .nil⟩, fun k => by simp⟩
  obtain ⟨s2, h2, e2, w2, m2⟩ := (Q4y (QjX (wl := s1.locs.length + 1 + 1) (kl := s1.locs.length + 1) (ol := s1.locs.length) (by omega) (by omega)) e.size).1 e (Nat.le_refl _) (by omega) 0 [] [] [] _ ⟨r0, n0, by simp only [List.length_nil]; omega⟩
  obtain ⟨x, v, q1, q2, q3⟩ := w2.r.2.1.read
  refine ⟨x, s2, v, ?_, q2, q3, g1.trans (((Moves.grew [] [] (Qhd s1 _ _ _)).next m2 fun i hi => .inr ?_).shrink (g := []) (by simp)).toGrew⟩
  ·simp only [TBad.enc, TBad.cells, TBad.zero] at e1
   simp only [Exp.enc, Exp.cells_eq] at e1 e2
   rw [Q8N]
   simp only [S, three, F1, F2, c0, wcells, TBad.zero] at k1 k2 k3 e2
   simp only [go_sem, Nat.reduceAdd, Nat.reduceLeDiff, Exp.enc, Exp.cells_eq, e1, Q1I, decide_eq_true (Eq.refl (TBad.mk 0 0 [])), Bool.not_true, k1, k2, k3, e2, q1]
  ·simp only [List.mem_cons, List.not_mem_nil, or_false] at hi
   omega
 ·rw [if_pos (by simpa using hr)]
  refine ⟨.val .nils, s1, .nils, ?_, rfl, rfl, g1⟩
  revert e1 hr
  generalize rightN (nodesExp e) (deepExp e) = b
  intro e1 hr
  obtain ⟨k, a, nm⟩ := b
  rw [Q8N]
  simp only [TBad.enc, TBad.cells, TBad.zero] at e1 hr
  simp only [Exp.enc, Exp.cells_eq] at e1
  simp only [go_sem, Nat.reduceAdd, Nat.reduceLeDiff, Exp.enc, Exp.cells_eq, e1, Q1I, decide_eq_false hr, Bool.not_false]
theorem Q6k (d : Dec) (hs : d.size < 2^24) (hok : ∀ n ∈ nodesDecs false [d], n.ok) (s : St) : RetL (cw (.f Q37) [d.enc] s) s (bindsD d) := by
 obtain ⟨s1, e1, g1⟩ := Q77 [d] false s (by simp only [Dec.sizes]; omega) hok
 simp only [List.map_cons, List.map_nil, ZT] at e1
 unfold bindsD
 by_cases hr : rightN (nodesDecs false [d]) (deepDecs [d] 0) = .zero
 ·rw [if_neg (by simpa using hr)]
  rw [hr] at e1
  obtain ⟨x, s2, h2, e2, a2, g2⟩ := Q6q d (by omega) s1
  refine ⟨x, s2, _, ?_, a2.av, Q9 _ _, g1.trans g2⟩
  simp only [TBad.enc, TBad.cells, TBad.zero] at e1
  simp only [Dec.enc, Dec.cells_eq] at e1 e2
  rw [Q7M]
  simp only [go_sem, Nat.reduceAdd, Nat.reduceLeDiff, Dec.enc, Dec.cells_eq, e1, e2, Q1I, decide_eq_true (Eq.refl (TBad.mk 0 0 [])), Bool.not_true]
 ·rw [if_pos (by simpa using hr)]
  refine ⟨.val .nils, s1, .nils, ?_, rfl, rfl, g1⟩
  revert e1 hr
  generalize rightN (nodesDecs false [d]) (deepDecs [d] 0) = b
  intro e1 hr
  obtain ⟨k, a, nm⟩ := b
  rw [Q7M]
  simp only [TBad.enc, TBad.cells, TBad.zero] at e1 hr
  simp only [Dec.enc, Dec.cells_eq] at e1
  simp only [go_sem, Nat.reduceAdd, Nat.reduceLeDiff, Dec.enc, Dec.cells_eq, e1, Q1I, decide_eq_false hr, Bool.not_false]
end Go.Proofs.YtinphnakebeloaaGreat
namespace Go.Am
open Go
def Within (l : List TNode) (D : Int) (S : Nat) : Prop := ∀ n ∈ l, (∀ e, n = .exp e → (∃ a b, l = a ++ (nodesExp e ++ b)) ∧ deepExp e ≤ D ∧ e.size ≤ S) ∧ (∀ p, n = .pat p → (∃ a b, l = a ++ (nodesPat p ++ b)) ∧ deepPat p ≤ D ∧ p.size ≤ S)
theorem Within.nil (D : Int) (S : Nat) : Within [] D S := fun n hn => by cases hn
theorem Within.mono {l : List TNode} {D E : Int} {S T : Nat} (h : Within l D S) (hd : D ≤ E) (hs : S ≤ T) : Within l E T := fun n hn => ⟨fun e he => by
 obtain ⟨h1, h2, h3⟩ := (h n hn).1 e he
 exact ⟨h1, by omega, by omega⟩, fun p hp => by
 obtain ⟨h1, h2, h3⟩ := (h n hn).2 p hp
 exact ⟨h1, by omega, by omega⟩⟩
theorem Within.app {l m : List TNode} {D : Int} {S : Nat} (h : Within l D S) (g : Within m D S) : Within (l ++ m) D S := fun n hn => by
 rcases List.mem_append.1 hn with hn | hn
 ·refine ⟨fun e he => ?_, fun p hp => ?_⟩
  ·obtain ⟨⟨a, b, hab⟩, hd⟩ := (h n hn).1 e he
   exact ⟨⟨a, b ++ m, by rw [hab]; simp⟩, hd⟩
  ·obtain ⟨⟨a, b, hab⟩, hd⟩ := (h n hn).2 p hp
   exact ⟨⟨a, b ++ m, by rw [hab]; simp⟩, hd⟩
 ·refine ⟨fun e he => ?_, fun p hp => ?_⟩
  ·obtain ⟨⟨a, b, hab⟩, hd⟩ := (g n hn).1 e he
   exact ⟨⟨l ++ a, b, by rw [hab]; simp⟩, hd⟩
  ·obtain ⟨⟨a, b, hab⟩, hd⟩ := (g n hn).2 p hp
   exact ⟨⟨l ++ a, b, by rw [hab]; simp⟩, hd⟩
theorem Within.cons {l : List TNode} {D : Int} {S : Nat} {n : TNode} (h : Within l D S) (h1 : ∀ e, n = .exp e → n :: l = nodesExp e ∧ deepExp e ≤ D ∧ e.size ≤ S) (h2 : ∀ p, n = .pat p → n :: l = nodesPat p ∧ deepPat p ≤ D ∧ p.size ≤ S) : Within (n :: l) D S := fun m hm => by
 rcases List.mem_cons.1 hm with rfl | hm
 ·exact ⟨fun e he => ⟨⟨[], [], by rw [(h1 e he).1]; simp⟩, (h1 e he).2⟩, fun p hp => ⟨⟨[], [], by rw [(h2 p hp).1]; simp⟩, (h2 p hp).2⟩⟩
 ·refine ⟨fun e he => ?_, fun p hp => ?_⟩
  ·obtain ⟨⟨a, b, hab⟩, hd⟩ := (h m hm).1 e he
   exact ⟨⟨n :: a, b, by rw [hab]; simp⟩, hd⟩
  ·obtain ⟨⟨a, b, hab⟩, hd⟩ := (h m hm).2 p hp
   exact ⟨⟨n :: a, b, by rw [hab]; simp⟩, hd⟩
mutual
theorem QdO (a : Int) (D : Int) (S : Nat) : ∀ t : Ty, Within (nodesTy a t) D S
 | .mk k n s l b => by
   rw [nodesTy]
   exact (Qcp a D S l).cons (fun e he => by cases he) (fun p hp => by cases hp)
theorem Qcp (a : Int) (D : Int) (S : Nat) : ∀ l : List Ty, Within (nodesTys a l) D S
 | [] => by rw [nodesTys]; exact .nil D S
 | t :: l => by rw [nodesTys]; exact (QdO a D S t).app (Qcp a D S l)
end
mutual
theorem Q8s : ∀ t : Pat, Within (nodesPat t) (deepPat t) t.size
 | .mk k a s n l b => by
   have h := QaJ l 0
   rw [nodesPat]
   refine (h.mono (by simp only [deepPat]; omega) (by simp only [Pat.size]; omega)).cons (fun e he => by cases he) (fun p hp => by cases hp; exact ⟨by rw [nodesPat], Int.le_refl _, Nat.le_refl _⟩)
theorem QaJ : ∀ (l : List Pat) (n : Int), Within (nodesPats l) (deepPats l n) (Pat.sizes l)
 | [], n => by rw [nodesPats]; exact .nil _ _
 | t :: l, n => by
   rw [nodesPats, deepPats, Pat.sizes]
   have h1 := (Q7g l (maxI n (deepPat t))).1
   have h2 := Q0k n (deepPat t)
   exact ((Q8s t).mono (by omega) (by omega)).app ((QaJ l _).mono (Int.le_refl _) (by omega))
end
theorem Qhh (c : Con) (D : Int) (S : Nat) : Within (nodesCon c) D S := by
 unfold nodesCon
 refine Within.cons ?_ (fun e he => by cases he) (fun p hp => by cases hp)
 cases c.has
 ·exact .nil D S
 ·exact QdO _ D S _
theorem QaF (D : Int) (S : Nat) : ∀ l : List Con, Within (nodesCons l) D S
 | [] => by rw [nodesCons]; exact .nil D S
 | t :: l => by rw [nodesCons]; exact (Qhh t D S).app (QaF D S l)
mutual
theorem Q8r : ∀ t : Exp, Within (nodesExp t) (deepExp t) t.size
 | .mk k a s n l lb c cb d db => by
   have h1 := QaG true d 0
   have h2 := QaH l (maxI (deepDecs d 0) (deepCases c 0))
   have h3 := Q6C c 0
   have g1 := (Q2S l (maxI (deepDecs d 0) (deepCases c 0))).1
   have g2 := Q0k (deepDecs d 0) (deepCases c 0)
   rw [nodesExp]
   refine Within.cons ((h1.mono ?_ ?_).app ((h2.mono ?_ ?_).app (h3.mono ?_ ?_))) (fun e he => by cases he; exact ⟨by rw [nodesExp], Int.le_refl _, Nat.le_refl _⟩) (fun p hp => by cases hp)
   all_goals simp only [deepExp, Exp.size]; omega
theorem QaH : ∀ (l : List Exp) (n : Int), Within (nodesExps l) (deepExps l n) (Exp.sizes l)
 | [], n => by rw [nodesExps]; exact .nil _ _
 | t :: l, n => by
   rw [nodesExps, deepExps, Exp.sizes]
   have h1 := (Q2S l (maxI n (deepExp t))).1
   have h2 := Q0k n (deepExp t)
   exact ((Q8r t).mono (by omega) (by omega)).app ((QaH l _).mono (Int.le_refl _) (by omega))
theorem Qgi : ∀ c : Case, Within (nodesCase c) (deepCase c) c.size
 | .mk p e => by
   have h1 := Q8s p
   have h2 := Q8r e
   have h3 := Q0k 0 (deepPat p)
   have h4 := Q0k (maxI 0 (deepPat p)) (deepExp e)
   rw [nodesCase, deepCase, Case.size]
   exact (h1.mono (by omega) (by omega)).app (h2.mono (by omega) (by omega))
theorem Q6C : ∀ (l : List Case) (n : Int), Within (nodesCases l) (deepCases l n) (Case.sizes l)
 | [], n => by rw [nodesCases]; exact .nil _ _
 | .mk p e :: l, n => by
   have h1 := Q8s p
   have h2 := Q8r e
   have h3 := Q0k n (deepPat p)
   have h4 := Q0k (maxI n (deepPat p)) (deepExp e)
   have h5 := (Q0s l (maxI (maxI n (deepPat p)) (deepExp e))).1
   have h6 := Q6C l (maxI (maxI n (deepPat p)) (deepExp e))
   rw [nodesCases, nodesCase, deepCases, Case.sizes, Case.size]
   exact ((h1.mono (by omega) (by omega)).app (h2.mono (by omega) (by omega))).app (h6.mono (Int.le_refl _) (by omega))
theorem QaG (i : Bool) : ∀ (l : List Dec) (n : Int), Within (nodesDecs i l) (deepDecs l n) (Dec.sizes l)
 | [], n => by rw [nodesDecs]; exact .nil _ _
 | .mk k a s p l lb c cb f fb :: r, n => by
   have h1 := Q6C c 0
   have h2 := QaI f (deepCases c 0)
   have h3 := fun D S => QaF D S l
   have h4 := QaG i r (maxI n (deepCons l (deepFuns f (deepCases c 0)) + 1))
   have g1 := (Q29 f (deepCases c 0)).1
   have g2 := (Q2R l (deepFuns f (deepCases c 0))).1
   have g3 := (Q28 r (maxI n (deepCons l (deepFuns f (deepCases c 0)) + 1))).1
   have g4 := Q0k n (deepCons l (deepFuns f (deepCases c 0)) + 1)
   rw [nodesDecs, nodesDec, deepDecs, Dec.sizes, Dec.size]
   exact (Within.cons ((h1.mono (by omega) (by omega)).app ((h2.mono (by omega) (by omega)).app (h3 _ _))) (fun e he => by cases he) (fun p hp => by cases hp)).app (h4.mono (Int.le_refl _) (by omega))
theorem QaI : ∀ (l : List Fun) (n : Int), Within (nodesFuns l) (deepFuns l n) (Fun.sizes l)
 | [], n => by rw [nodesFuns]; exact .nil _ _
 | .mk s a c :: l, n => by
   have h1 := Qgi c
   have h2 := QaI l (maxI n (deepCase c))
   have g1 := (Q29 l (maxI n (deepCase c))).1
   have g2 := Q0k n (deepCase c)
   rw [nodesFuns, nodesFun, deepFuns, Fun.sizes, Fun.size]
   exact (Within.cons (h1.mono (by omega) (by omega)) (fun e he => by cases he) (fun p hp => by cases hp)).app (h2.mono (Int.le_refl _) (by omega))
end
theorem Q9i : ∀ l : List TNode, firstBad l = .zero → ∀ n ∈ l, n.bad.kind = 0
 | [], _, n, hn => by cases hn
 | u :: l, h, n, hn => by
   rw [firstBad] at h
   by_cases hu : u.bad.kind = 0
   ·rw [decide_eq_true hu, cond_true] at h
    rcases List.mem_cons.1 hn with rfl | hn
    ·exact hu
    ·exact Q9i l h n hn
   ·rw [decide_eq_false hu, cond_false] at h
    rw [h] at hu
    exact absurd rfl hu
end Go.Am
namespace Go.Am
open Go
set_option linter.unusedVariables false
theorem Qgc {l : List TNode} {D : Int} (h : rightN l D = .zero) : firstBad l = .zero := by
 unfold rightN at h
 cases h1 : decide (countN l > 8192) with
 | true => rw [h1, cond_true] at h; cases h
 | false =>
   rw [h1, cond_false] at h
   cases h2 : decide (D > 100) with
   | true => rw [h2, cond_true] at h; cases h
   | false => rw [h2, cond_false] at h; exact h
theorem wrong0 {n : TNode} (h : n.bad.kind = 0) : n.wrong.1 = 0 := by
 unfold TNode.bad mkBad at h
 by_cases e : n.wrong.1 = 0
 ·exact e
 ·rw [decide_eq_false e, cond_false] at h; exact h
theorem Q4F {l : List TNode} {D : Int} (h : rightN l D = .zero) : ∀ n ∈ l, n.wrong.1 = 0 := fun n hn => wrong0 (Q9i l (Qgc h) n hn)
theorem Q8z : ∀ l : List TNode, (firstBad l).kind = 0 → firstBad l = .zero
 | [], _ => rfl
 | n :: l, h => by
   rw [firstBad] at h ⊢
   by_cases e : n.bad.kind = 0
   ·rw [decide_eq_true e, cond_true] at h ⊢; exact Q8z l h
   ·rw [decide_eq_false e, cond_false] at h; exact absurd h e
theorem Qc4 {l : List TNode} {D : Int} : (rightN l D).kind = 0 ↔ rightN l D = .zero := by
 constructor
 ·unfold rightN
  cases decide (countN l > 8192) with
  | true => intro h; cases h
  | false =>
    cases decide (D > 100) with
    | true => intro h; cases h
    | false => exact Q8z l
 ·intro h; rw [h]; rfl
structure DecIs (k : Int) (nm : Str) (p nl nc nf : Int) (inn : Bool) : Prop where
 kind : k = 1 ∨ k = 2 ∨ k = 3 ∨ k = 4
 val : k = 1 → nc = 1 ∧ ¬ nf > 0 ∧ ¬ nl > 0
 fn : k = 2 → ¬ nc > 0 ∧ ¬ nl > 0 ∧ nf > 0
 data : k = 3 → ¬ nc > 0 ∧ ¬ nf > 0 ∧ 0 ≤ p ∧ p ≤ 8 ∧ lowB nm = true ∧ nl > 0 ∧ nl ≤ 64
 exn : k = 4 → ¬ nc > 0 ∧ ¬ nf > 0 ∧ nl = 1
 bare : k ≠ 3 → p = 0 ∧ nm = []
 inn : inn = true → k = 1 ∨ k = 2
theorem QjN {k : Int} {nm : Str} {p nl nc nf : Int} {inn : Bool} (h : wrongDecC k nm p nl nc nf inn = 0) : DecIs k nm p nl nc nf inn := by
 unfold wrongDecC at h
 by_cases h1 : k = 1
 ·subst h1
  simp only [decide_true, cond_true, Int.reduceEq, decide_false, cond_false] at h
  grind [DecIs]
 ·by_cases h2 : k = 2
  ·subst h2
   simp only [decide_true, cond_true, Int.reduceEq, decide_false, cond_false] at h
   grind [DecIs]
  ·by_cases h3 : k = 3
   ·subst h3
    simp only [decide_true, cond_true, Int.reduceEq, decide_false, cond_false] at h
    grind [DecIs]
   ·by_cases h4 : k = 4
    ·subst h4
     simp only [decide_true, cond_true, Int.reduceEq, decide_false, cond_false] at h
     grind [DecIs]
    ·simp only [decide_eq_false h1, decide_eq_false h2, decide_eq_false h3, decide_eq_false h4, cond_false, Bool.not_false, Bool.true_or, cond_true] at h
     cases h
theorem QeJ {d : Dec} {inn : Bool} (h : wrongDecB d inn = 0) : DecIs d.kind d.name d.params d.cons.length d.case.length d.funs.length inn := QjN h
theorem len0 {α : Type} {l : List α} (h : ¬ ((l.length : Int) > 0)) : l = [] := List.eq_nil_of_length_eq_zero (by omega)
theorem Qk6 {p : Pat} (h : wrongPatB p = 0) (hk : p.kind = 4) : p.kids.length ≤ 1 := by
 unfold wrongPatB patLM at h
 simp only [hk, decide_true, cond_true, Int.reduceEq, decide_false, cond_false] at h
 grind
theorem QjS {e : Exp} (h : wrongExpB e = 0) (hk : e.kind = 3) : e.kids.length ≤ 1 := by
 unfold wrongExpB expLM at h
 simp only [hk, decide_true, cond_true, Int.reduceEq, decide_false, cond_false] at h
 grind
end Go.Am
namespace Go.Am
open Go
theorem QeH (sub : List UInt8) : Go.Lib.contains [] sub = sub.isEmpty := by
 unfold Go.Lib.contains Go.Lib.index
 cases sub.isEmpty <;> rfl
theorem Q50 (c : UInt8) (s sub : List UInt8) : Go.Lib.contains (c :: s) sub = (sub.isPrefixOf (c :: s) || Go.Lib.contains s sub) := by
 have h := Go.Lib.index_ge s sub
 unfold Go.Lib.contains
 rw [Go.Lib.index]
 cases sub.isPrefixOf (c :: s) with
 | true => rfl
 | false =>
   simp only [Bool.false_eq_true, if_false, Bool.false_or]
   by_cases h1 : Go.Lib.index s sub = -1
   ·rw [h1]; rfl
   ·have h2 : (Go.Lib.index s sub == -1) = false := by simpa using h1
    rw [h2]
    simp only [Bool.false_eq_true, if_false]
    congr 1
    rw [eq_iff_iff]
    omega
theorem QdF : ∀ (w T x : List UInt8), (∀ c ∈ w, c ≠ 32) → Go.Lib.contains (w ++ T) (32 :: x) = Go.Lib.contains T (32 :: x)
 | [], _, _, _ => rfl
 | c :: w, T, x, h => by
   have hc : ((32 : UInt8) == c) = false := by have := h c (by simp); rw [beq_eq_false_iff_ne]; exact fun e => this e.symm
   rw [List.cons_append, Q50, List.isPrefixOf, hc, Bool.false_and, Bool.false_or]
   exact QdF w T x fun d hd => h d (List.mem_cons_of_mem _ hd)
theorem Qaq : ∀ (l w T : List UInt8), (∀ c ∈ l, c ≠ 32) → (∀ c ∈ w, c ≠ 32) → (l ++ [32]).isPrefixOf (w ++ 32 :: T) = decide (l = w)
 | [], [], T, _, _ => by simp [List.isPrefixOf]
 | [], c :: w, T, _, h => by
   have hc : ((32 : UInt8) == c) = false := by have := h c (by simp); rw [beq_eq_false_iff_ne]; exact fun e => this e.symm
   simp [List.isPrefixOf, hc]
 | a :: l, [], T, h, _ => by
   have hc : (a == (32 : UInt8)) = false := by have := h a (by simp); rw [beq_eq_false_iff_ne]; exact this
   simp [List.isPrefixOf, hc]
 | a :: l, c :: w, T, h, g => by
   have ih := Qaq l w T (fun d hd => h d (List.mem_cons_of_mem _ hd)) (fun d hd => g d (List.mem_cons_of_mem _ hd))
   rw [List.cons_append, List.cons_append, List.isPrefixOf, ih]
   by_cases hac : a = c
   ·subst hac; simp
   ·have : (a == c) = false := by rw [beq_eq_false_iff_ne]; exact hac
    simp [this, hac]
theorem QgJ (l : Str) (hl : ∀ c ∈ l, c ≠ 32) : ∀ ws : List Str, (∀ w ∈ ws, ∀ c ∈ w, c ≠ 32) → Go.Lib.contains (32 :: (ws.flatMap fun w => w ++ [32])) (32 :: (l ++ [32])) = ws.any fun w => decide (l = w)
 | [], _ => by
   rw [List.flatMap_nil, Q50, QeH]
   cases l <;> simp [List.isPrefixOf]
 | w :: ws, h => by
   have hw := h w (by simp)
   have e : (w :: ws).flatMap (fun w => w ++ [32]) = w ++ 32 :: (ws.flatMap fun w => w ++ [32]) := by simp
   rw [e, Q50, List.isPrefixOf, beq_self_eq_true, Bool.true_and, Qaq l w _ hl hw, QdF w _ _ hw, QgJ l hl ws fun v hv => h v (List.mem_cons_of_mem _ hv), List.any_cons]
def wordsAll : List Str := wordsR ++ [[116, 114, 117, 101], [102, 97, 108, 115, 101], [95]]
theorem Qjd : wordsS = 32 :: (wordsAll.flatMap fun w => w ++ [32]) := by decide +kernel
theorem Qgj : ∀ w ∈ wordsAll, ∀ c ∈ w, c ≠ 32 := by decide +kernel
theorem Qk9 (n : Int) : restR n = !unrestB n := by
 simp only [restR, unrestB, smallB, greatB]
 by_cases h1 : n ≥ 97 <;> by_cases h2 : n ≤ 122 <;> by_cases h3 : n = 95 <;> by_cases h4 : n ≥ 65 <;> by_cases h5 : n ≤ 90 <;> by_cases h6 : n < 48 <;> by_cases h7 : n > 57 <;> by_cases h8 : n = 39 <;> simp [h1, h2, h3, h4, h5, h6, h7, h8] <;> omega
theorem Q9C (l : Str) (cap : Bool) : shapedR l cap = (!decide (l = []) && letterR (headB l) cap && runB l) := by
 have e : ((l.drop 1).all fun c => restR c.toNat) = restAll (l.drop 1) := by
  unfold restAll
  congr 1
  funext c
  exact Qk9 _
 unfold shapedR runB
 rw [e]
 have e1 : decide ((l.length : Int) < 1) = decide (l = []) := by cases l <;> simp; omega
 have e2 : decide ((l.length : Int) > 32) = !decide (l.length ≤ 32) := by
  by_cases h : l.length ≤ 32
  ·rw [decide_eq_true h, decide_eq_false (by omega)]; rfl
  ·rw [decide_eq_false h, decide_eq_true (by omega)]; rfl
 rw [e1, e2]
 cases decide (l = []) <;> cases decide (l.length ≤ 32) <;> cases letterR (headB l) cap <;> cases restAll (l.drop 1) <;> rfl
theorem QhE (l : Str) : capR l = capB l := Q9C l true
theorem QhI (l : Str) : conR l = conB l := by unfold conR conB; rw [QhE]
theorem QiT (l : Str) (h : shapedR l false = true) : ∀ c ∈ l, c ≠ 32 := by
 rw [Q9C] at h
 simp only [Bool.and_eq_true] at h
 obtain ⟨⟨h0, h1⟩, h2⟩ := h
 cases l with
 | nil => intro c hc; cases hc
 | cons a l =>
   intro c hc e
   subst e
   rcases List.mem_cons.1 hc with rfl | hc
   ·change letterR 32 false = true at h1
    revert h1; decide
   ·simp only [runB, Bool.and_eq_true, restAll, List.drop_one, List.tail_cons, List.all_eq_true] at h2
    have := h2.1 32 hc
    revert this; decide
theorem Q9s (l : Str) : lowR l = lowB l := by
 unfold lowR
 have e : lowB l = (shapedR l false && !Go.Lib.contains wordsS (32 :: (l ++ [32]))) := by rw [Q9C]; rfl
 rw [e]
 cases hs : shapedR l false with
 | false => rfl
 | true =>
   rw [Qjd, QgJ l (QiT l hs) wordsAll Qgj]
   unfold wordsAll amongR
   rw [List.any_append]
   have e3 : (wordsR.any fun w => decide (w = l)) = wordsR.any fun w => decide (l = w) := by congr 1; funext w; congr 1; rw [eq_iff_iff]; exact eq_comm
   rw [e3]
   simp only [List.any_cons, List.any_nil]
   cases (wordsR.any fun w => decide (l = w)) <;> cases decide (l = [95]) <;> cases decide (l = [116, 114, 117, 101]) <;> cases decide (l = [102, 97, 108, 115, 101]) <;> rfl
theorem Qk4 : lowB [105, 110, 116] = true := by decide +kernel
theorem QiO : lowB [98, 111, 111, 108] = true := by decide +kernel
theorem QiP : lowB [117, 110, 105, 116] = true := by decide +kernel
theorem Qk3 : lowB [101, 120, 110] = true := by decide +kernel
end Go.Am
namespace Go.Proofs.YtinphnakebeloaaGreat
open Go Go.Am
set_option linter.unusedVariables false
set_option maxRecDepth 4000
theorem Q6d (n : Int) (s : St) (h : -9223372036854775808 ≤ n) (h' : n ≤ 9223372036854775807) : cw (.f Q35) [.int .i64 n] s = some (.ret (.val (.bool (isIntB n))), s) := by
 rw [Qd4]
 have h1 : -2147483648 < n.tmod 2147483648 := Int.lt_tmod_of_pos n (by decide)
 have h2 : n.tmod 2147483648 < 2147483648 := Int.tmod_lt_of_pos n (by decide)
 have h3 : n = 2147483648 * n.tdiv 2147483648 + n.tmod 2147483648 := (Int.mul_tdiv_add_tmod n 2147483648).symm
 have h4 : 0 ≤ n → 0 ≤ n.tmod 2147483648 := fun h => Int.tmod_nonneg _ h
 have h5 : n ≤ 0 → n.tmod 2147483648 ≤ 0 := fun h => by have := Int.tmod_nonneg (2147483648) (show 0 ≤ -n by omega); rw [Int.neg_tmod] at this; omega
 simp only [go_sem, QbR]
 generalize n.tmod 2147483648 = m at *
 generalize n.tdiv 2147483648 = d at *
 refine congrArg (fun b => some (Out.ret (Slot.val (AV.bool b)), s)) ?_
 rw [Bool.eq_iff_iff]
 simp only [isIntB, Bool.and_eq_true, decide_eq_true_eq, Bool.cond_decide]
 split <;> split <;> omega
theorem Qd2 (e : Exp) (s : St) (hn : e.name.length < 2^62) (hl : e.kids.length < 2^40) (h : -9223372036854775808 ≤ e.n) (h' : e.n ≤ 9223372036854775807) : cw (.f Q7e) [e.enc] s = some (.ret (.val (.int .i64 (wrongExpB e))), s) := by
 obtain ⟨k, a, nm, n, l, lb, c, cb, d, db⟩ := e
 rw [Qfn]
 have hl' : l.length < 2^40 := hl
 have hi := fun s => Q6d n s h h'
 have hk : k = 1 ∨ k = 2 ∨ k = 3 ∨ k = 4 ∨ k = 5 ∨ k = 6 ∨ k = 7 ∨ k = 8 ∨ k = 9 ∨ k = 10 ∨ k = 11 ∨ k = 12 ∨ k = 13 ∨ k = 14 ∨ k = 15 ∨ k = 16 ∨ k = 17 ∨ k = 18 ∨ k = 19 ∨ k = 20 ∨ (k < 1 ∨ k > 20) := by omega
 rcases hk with rfl | rfl | rfl | rfl | rfl | rfl | rfl | rfl | rfl | rfl | rfl | rfl | rfl | rfl | rfl | rfl | rfl | rfl | rfl | rfl | hk
 rotate_left 20
 ·have h : (decide (k < 1) || decide (k > 20)) = true := by simpa using hk
  have e : wrongExpB (Exp.mk k a nm n l lb c cb d db) = 29 := by
   show (bif (decide (k < 1) || decide (k > 20) || _ || _ || _ || _ || _) then (29 : Int) else _) = 29
   rw [h]; rfl
  simp only [go_sem, Nat.reduceAdd, Nat.reduceLeDiff, h, e]
 all_goals
  simp only [go_sem, Int.reduceEq, Int.reduceGT, Int.reduceLT, Nat.reduceAdd, Nat.reduceLeDiff, Qe6, Qb5, Qb6, Q1k nm _ hn, Q7H nm _ hn, hi, Q39, wrongExpB, expLM, Exp.kind, Exp.name, Exp.n, Exp.kids, Exp.cases, Exp.decs, Q9s, QhI, isR]
  try rfl
 all_goals grind
theorem Qd5 (t : Pat) (s : St) (hn : t.name.length < 2^62) (h : -9223372036854775808 ≤ t.n) (h' : t.n ≤ 9223372036854775807) : cw (.f Q7f) [t.enc] s = some (.ret (.val (.int .i64 (wrongPatB t))), s) := by
 obtain ⟨k, a, nm, n, l, nl⟩ := t
 rw [Qfo]
 have hi := fun s => Q6d n s h h'
 have hk : k = 1 ∨ k = 2 ∨ k = 3 ∨ k = 4 ∨ k = 5 ∨ k = 6 ∨ (k < 1 ∨ k > 6) := by omega
 rcases hk with rfl | rfl | rfl | rfl | rfl | rfl | hk
 rotate_left 6
 ·have h : (decide (k < 1) || decide (k > 6)) = true := by simpa using hk
  have e : wrongPatB (Pat.mk k a nm n l nl) = 29 := by
   show (bif (decide (k < 1) || decide (k > 6)) then (29 : Int) else _) = 29
   rw [h]; rfl
  simp only [go_sem, Nat.reduceAdd, Nat.reduceLeDiff, h, e]
 all_goals
  simp only [go_sem, Int.reduceEq, Int.reduceGT, Int.reduceLT, Nat.reduceAdd, Nat.reduceLeDiff, Q1k nm _ hn, Q7H nm _ hn, hi, Q39, wrongPatB, patLM, Pat.kind, Pat.name, Pat.n, Pat.kids, Q9s, QhI, isR]
  try rfl
 all_goals grind
def argsR (nm : Str) : Int × Int :=
 bif decide (nm = [105, 110, 116]) || decide (nm = [98, 111, 111, 108]) || decide (nm = [117, 110, 105, 116]) || decide (nm = [101, 120, 110]) then (0, 0) else bif decide (nm = [114, 101, 102]) then (1, 1) else bif decide (nm = [45, 62]) then (2, 2) else bif decide (nm = [42]) then (2, 8) else (0, 8)
theorem QbS (nm : Str) (s : St) : cw (.f Q3t) [.str nm] s = some (.ret (.val (.tup [.int .i64 (argsR nm).1, .int .i64 (argsR nm).2])), s) := by
 rw [Qe2]
 simp only [go_sem, QaV]
 delta argsR
 generalize decide (nm = [105, 110, 116]) = x1
 generalize decide (nm = [98, 111, 111, 108]) = x2
 generalize decide (nm = [117, 110, 105, 116]) = x3
 generalize decide (nm = [101, 120, 110]) = x4
 generalize decide (nm = [114, 101, 102]) = x5
 generalize decide (nm = [45, 62]) = x6
 generalize decide (nm = [42]) = x7
 cases x1 <;> cases x2 <;> cases x3 <;> cases x4 <;> cases x5 <;> cases x6 <;> cases x7 <;> rfl
theorem Qa3 (t : Ty) (s : St) : cw (.f Q4l) [t.enc] s = some (.ret (.val (.bool (decide (t.kind = 0) && decide (t.n = 0) && decide (t.name = []) && decide ((t.args.length : Int) = 0)))), s) := by
 rw [Qc1]
 simp only [go_sem, Nat.reduceAdd, Nat.reduceLeDiff, Ty.cells_eq]
theorem Qe8 (t : Ty) (s : St) (hn : t.name.length < 2^62) : cw (.f Q7X) [t.enc] s = some (.ret (.val (.int .i64 (wrongTyB t))), s) := by
 obtain ⟨k, n, nm, l, nl⟩ := t
 rw [Qg9]
 simp only [go_sem, Nat.reduceAdd, Nat.reduceLeDiff, QbS, Q1k nm _ hn, Q39, Q9s]
 show _ = some (Out.ret (.val (.int .i64 (wrongTyC k n nm l.length))), s)
 by_cases h1 : nm = [105, 110, 116]
 ·subst h1; simp (decide := true) only [wrongTyC, tyLM, argsR, isR, Qk4]; grind
 by_cases h2 : nm = [98, 111, 111, 108]
 ·subst h2; simp (decide := true) only [wrongTyC, tyLM, argsR, isR, QiO]; grind
 by_cases h3 : nm = [117, 110, 105, 116]
 ·subst h3; simp (decide := true) only [wrongTyC, tyLM, argsR, isR, QiP]; grind
 by_cases h4 : nm = [101, 120, 110]
 ·subst h4; simp (decide := true) only [wrongTyC, tyLM, argsR, isR, Qk3]; grind
 simp only [wrongTyC, tyLM, argsR, isR, h1, h2, h3, h4]
 grind
theorem Qd1 (d : Dec) (inn : Bool) (s : St) (hn : d.name.length < 2^62) : cw (.f Q7d) [d.enc, .bool inn] s = some (.ret (.val (.int .i64 (wrongDecB d inn))), s) := by
 obtain ⟨k, a, nm, p, l, nb, c, cb, f, fb⟩ := d
 rw [Qfm]
 simp only [go_sem, Nat.reduceAdd, Nat.reduceLeDiff, Q1k nm _ hn, Q39, Q9s, isR]
 show _ = some (Out.ret (.val (.int .i64 (wrongDecC k nm p l.length c.length f.length inn))), s)
 have hk : k = 1 ∨ k = 2 ∨ k = 3 ∨ k = 4 ∨ (k ≠ 1 ∧ k ≠ 2 ∧ k ≠ 3 ∧ k ≠ 4) := by omega
 simp only [wrongDecC]
 rcases hk with rfl | rfl | rfl | rfl | ⟨h1, h2, h3, h4⟩
 all_goals grind
end Go.Proofs.YtinphnakebeloaaGreat
namespace Go.Proofs.YtinphnakebeloaaGreat
open Go Go.Am
set_option linter.unusedVariables false
set_option maxRecDepth 4000
theorem Qb7 (nd : TNode) (s : St) (h : nd.ok) : ∃ nm : Str, cw (.f Q4Z) [nd.enc] s = some (.ret (.val (.tup [.int .i64 nd.wrong.1, .str nm])), s) ∧ (nd.wrong.1 = 8 → nm = nd.wrong.2) := by
 rw [Qd6]
 cases nd with
 | dec inn d =>
   have hn : d.name.length < 2^62 := by simp only [TNode.ok] at h; omega
   have hw := fun s => Qd1 d inn s hn
   obtain ⟨k, a, nm, p, l, nb, c, cb, f, fb⟩ := d
   simp only [go_sem, Dec.enc] at hw
   simp only [go_sem, Int.reduceEq, Nat.reduceAdd, Nat.reduceLeDiff, Nat.reduceSub, TNode.cells, hw]
   exact ⟨nm, rfl, fun _ => rfl⟩
 | exp e =>
   obtain ⟨h0, h1, h2, h3⟩ := h
   have hw := fun s => Qd2 e s (by omega) h1 h2 h3
   obtain ⟨k, a, nm, n, l, lb, c, cb, d, db⟩ := e
   simp only [go_sem, Exp.enc] at hw
   simp only [go_sem, Int.reduceEq, Nat.reduceAdd, Nat.reduceLeDiff, Nat.reduceSub, TNode.cells, Dec.zero, hw]
   exact ⟨nm, rfl, fun _ => rfl⟩
 | pat e =>
   obtain ⟨h0, h2, h3⟩ := h
   have hw := fun s => Qd5 e s (by omega) h2 h3
   obtain ⟨k, a, nm, n, l, lb⟩ := e
   simp only [go_sem, Pat.enc] at hw
   simp only [go_sem, Int.reduceEq, Nat.reduceAdd, Nat.reduceLeDiff, Nat.reduceSub, TNode.cells, Dec.zero, Exp.zero, hw]
   exact ⟨nm, rfl, fun _ => rfl⟩
 | ty e a =>
   have hn : e.name.length < 2^62 := by simp only [TNode.ok] at h; omega
   have hw := fun s => Qe8 e s hn
   obtain ⟨k, n, nm, l, lb⟩ := e
   simp only [go_sem, Ty.enc] at hw
   simp only [go_sem, Int.reduceEq, Nat.reduceAdd, Nat.reduceLeDiff, Nat.reduceSub, TNode.cells, Dec.zero, Exp.zero, Pat.zero, hw]
   exact ⟨nm, rfl, fun _ => rfl⟩
 | fn f =>
   have hn : f.name.length < 2^62 := by simp only [TNode.ok] at h; omega
   have hw := fun s => Q1k f.name s hn
   obtain ⟨nm, a, c⟩ := f
   simp only [Fun.name, Q9s] at hw
   simp only [go_sem, Int.reduceEq, Nat.reduceAdd, Nat.reduceLeDiff, Nat.reduceSub, TNode.cells, Dec.zero, Exp.zero, Pat.zero, Ty.zero, hw]
   cases hl : lowB nm
   ·simp only [go_sem]; exact ⟨nm, by simp only [TNode.wrong, Fun.name, hl]; rfl, fun _ => rfl⟩
   ·simp only [go_sem]; exact ⟨[], by simp only [TNode.wrong, Fun.name, hl]; rfl, fun h => by simp only [TNode.wrong, Fun.name, hl] at h; cases h⟩
 | con c =>
   have hn : c.name.length < 2^62 := by simp only [TNode.ok] at h; omega
   have hw := fun s => Q4M c.name s hn
   have hz := fun s => Qa3 c.arg s
   obtain ⟨nm, a, hs, arg⟩ := c
   obtain ⟨tk, tn, tnm, tl, tb⟩ := arg
   simp only [QhE] at hw
   simp only [go_sem, Ty.enc] at hz
   simp only [go_sem, Int.reduceEq, Nat.reduceAdd, Nat.reduceLeDiff, TNode.cells, Con.cells, Dec.zero, Exp.zero, Pat.zero, Ty.zero, Fun.zero, Case.zero, hw, hz]
   have hb : (!hs && !(decide (tk = 0) && decide (tn = 0) && decide (tnm = []) && decide ((tl.length : Int) = 0))) = (!hs && (!decide (tk = 0) || !decide (tn = 0) || !decide (tnm = []) || decide ((tl.length : Int) > 0))) := by
    cases hs <;> by_cases h1 : tk = 0 <;> by_cases h2 : tn = 0 <;> by_cases h3 : tnm = [] <;> cases tl <;> simp [h1, h2, h3] <;> omega
   have key : ∀ b1 b2 : Bool, ∃ nm' : Str, some (Out.ret (Slot.val (bif b1 then AV.tup [.int .i64 29, .str []] else bif !b2 then AV.tup [.int .i64 8, .str nm] else AV.tup [.int .i64 0, .str []])), s) = some (Out.ret (Slot.val (.tup [.int .i64 (bif b1 then 29 else bif !b2 then 8 else 0), .str nm'])), s) ∧ ((bif b1 then (29 : Int) else bif !b2 then 8 else 0) = 8 → nm' = nm) := by
    intro b1 b2
    cases b1 <;> cases b2
    ·exact ⟨nm, rfl, fun _ => rfl⟩
    ·exact ⟨[], rfl, fun h => by cases h⟩
    ·exact ⟨[], rfl, fun h => by cases h⟩
    ·exact ⟨[], rfl, fun h => by cases h⟩
   obtain ⟨nm', e1, e2⟩ := key (!hs && !(decide (tk = 0) && decide (tn = 0) && decide (tnm = []) && decide ((tl.length : Int) = 0))) (capB nm)
   have hw2 : (TNode.con ⟨nm, a, hs, .mk tk tn tnm tl tb⟩).wrong = (bif (!hs && !(decide (tk = 0) && decide (tn = 0) && decide (tnm = []) && decide ((tl.length : Int) = 0))) then 29 else bif !capB nm then 8 else 0, nm) := by
    rw [hb]; rfl
   rw [hw2]
   exact ⟨nm', e1, e2⟩
end Go.Proofs.YtinphnakebeloaaGreat
namespace Go.Proofs.YtinphnakebeloaaGreat
open Go Go.Am
set_option linter.unusedVariables false
set_option maxRecDepth 4000
theorem Q5h (t : Ty) (hl : t.args.length < 2^40) : ∀ (suf pre : List Ty) (n : Int) (s : St) (i : Nat), pre ++ suf = t.args → i = pre.length → (∀ t ∈ suf, ∀ s, cw (.f Q0f) [t.enc] s = some (.ret (.val (.int .i64 (deepTy t))), s)) → 0 ≤ n → n < 2^40 → Ty.sizes suf < 2^40 →
  Q0V (t.cells.map .val) (.val (.int .i64 n)) (.val (.int .i64 i)) s = some (.ret (.val (.int .i64 (deepTys suf n + 1))), s)
 | [], pre, n, s, i, h, hi, H, h0, h1, h2 => by
   subst hi
   rw [Q4Q]; simp only [go_sem, Nat.reduceAdd, Nat.reduceLeDiff, Ty.cells_eq, Q8 (by simpa using h)]
   rw [wrap64 (by omega) (by omega)]; rfl
 | u :: suf, pre, n, s, i, h, hi, H, h0, h1, h2 => by
   subst hi
   obtain ⟨f1, f2, f3⟩ := Q6 (x := .val (encS t.nl (t.args.map Ty.enc))) (Q9 _ _) h (by omega) (Ty.cells_len u) (by decide)
   have ht := Q3k u
   have hm := QO n (deepTy u) (2^40 - 1)
   have hn := QN n (deepTy u)
   simp only [Ty.sizes] at h2
   have := Q5h t hl suf (pre ++ [u]) (maxI n (deepTy u)) s (pre.length + 1) (by simpa using h) (by simp) (fun w hw => H w (List.mem_cons_of_mem _ hw)) (by omega) (by omega) (by omega)
   rw [Q4Q]; rw [Ty.cells_eq] at this ⊢; simp only [go_sem, Nat.reduceAdd, Nat.reduceLeDiff, f1, f2, f3, H u (List.mem_cons_self)] at this ⊢
   exact this
theorem Q5i : ∀ (m : Nat) (t : Ty) (s : St), t.size ≤ m → t.size < 2^40 → cw (.f Q0f) [t.enc] s = some (.ret (.val (.int .i64 (deepTy t))), s)
 | 0, .mk _ _ _ _ _, _, h, _ => by simp only [Ty.size] at h; omega
 | m + 1, .mk k n nm l nl, s, h, h' => by
   simp only [Ty.size] at h h'
   have hl := Ty.len_sizes l
   have := Q5h (.mk k n nm l nl) (by simp only [Ty.args]; omega) l [] 0 s 0 rfl rfl (fun u hu s => by have := Ty.mem_sizes hu; exact Q5i m u s (by omega) (by omega)) (by decide) (by decide) (by omega)
   rw [QbX]; simp only [go_sem, Nat.reduceAdd, Ty.enc] at this ⊢
   exact this
theorem Q4P (t : Pat) (hl : t.kids.length < 2^40) : ∀ (suf pre : List Pat) (n : Int) (s : St) (i : Nat), pre ++ suf = t.kids → i = pre.length → (∀ t ∈ suf, ∀ s, cw (.f Za) [t.enc] s = some (.ret (.val (.int .i64 (deepPat t))), s)) → 0 ≤ n → n < 2^40 → Pat.sizes suf < 2^40 →
  Q0w (t.cells.map .val) (.val (.int .i64 n)) (.val (.int .i64 i)) s = some (.ret (.val (.int .i64 (deepPats suf n + 1))), s)
 | [], pre, n, s, i, h, hi, H, h0, h1, h2 => by
   subst hi
   rw [Q49]; simp only [go_sem, Nat.reduceAdd, Nat.reduceLeDiff, Pat.cells_eq, Q8 (by simpa using h)]
   rw [wrap64 (by omega) (by omega)]; rfl
 | u :: suf, pre, n, s, i, h, hi, H, h0, h1, h2 => by
   subst hi
   obtain ⟨f1, f2, f3⟩ := Q6 (x := .val (encS t.kb (t.kids.map Pat.enc))) (Q9 _ _) h (by omega) (Pat.cells_len u) (by decide)
   have ht := Q09 u
   have hm := QO n (deepPat u) (2^40 - 1)
   have hn := QN n (deepPat u)
   simp only [Pat.sizes] at h2
   have := Q4P t hl suf (pre ++ [u]) (maxI n (deepPat u)) s (pre.length + 1) (by simpa using h) (by simp) (fun w hw => H w (List.mem_cons_of_mem _ hw)) (by omega) (by omega) (by omega)
   rw [Q49]; rw [Pat.cells_eq] at this ⊢; simp only [go_sem, Nat.reduceAdd, Nat.reduceLeDiff, f1, f2, f3, H u (List.mem_cons_self)] at this ⊢
   exact this
theorem Q0U : ∀ (m : Nat) (t : Pat) (s : St), t.size ≤ m → t.size < 2^40 → cw (.f Za) [t.enc] s = some (.ret (.val (.int .i64 (deepPat t))), s)
 | 0, .mk _ _ _ _ _ _, _, h, _ => by simp only [Pat.size] at h; omega
 | m + 1, .mk k a nm n l nl, s, h, h' => by
   simp only [Pat.size] at h h'
   have hl := Pat.len_sizes l
   have := Q4P (.mk k a nm n l nl) (by simp only [Pat.kids]; omega) l [] 0 s 0 rfl rfl (fun u hu s => by have := Pat.mem_sizes hu; exact Q0U m u s (by omega) (by omega)) (by decide) (by decide) (by omega)
   rw [Qb4]; simp only [go_sem, Nat.reduceAdd, Pat.enc] at this ⊢
   exact this
def rdeepExpOK (t : Exp) : Prop := ∀ s, cw (.f QS) [t.enc] s = some (.ret (.val (.int .i64 (deepExp t))), s)
def rdeepDecsOK (l : List Dec) : Prop := ∀ (v : AV) (s : St), (Slot.val v).list? = some (l.map Dec.enc) → cw (.f Zv) [v] s = some (.ret (.val (.int .i64 (deepDecs l 0))), s)
theorem Q3m (t : Exp) (hl : t.cases.length < 2^40) : ∀ (suf pre : List Case) (n : Int) (s : St) (i : Nat), pre ++ suf = t.cases → i = pre.length → (∀ c ∈ suf, rdeepExpOK c.exp) → 0 ≤ n → n < 2^40 → Case.sizes suf < 2^40 →
  Q0v (t.cells.map .val) (.val (.int .i64 n)) (.val (.int .i64 i)) s = some (.ret (.val (.int .i64 (deepCases suf n + 1))), s)
 | [], pre, n, s, i, h, hi, H, h0, h1, h2 => by
   subst hi
   rw [Q43]; simp only [go_sem, Exp.cells_eq, Q8 (by simpa using h)]
   rw [wrap64 (by omega) (by omega)]; rfl
 | .mk p e :: suf, pre, n, s, i, h, hi, H, h0, h1, h2 => by
   subst hi
   obtain ⟨f1, f2, f3⟩ := Q6 (x := .val (encS t.cb (t.cases.map Case.enc))) (Q9 _ _) h (by omega) (Case.cells_len (.mk p e)) (by decide)
   have ht := Q08 e
   have hp := Q09 p
   simp only [Case.sizes, Case.size] at h2
   have h4 := QN n (deepPat p)
   have h5 := QN (maxI n (deepPat p)) (deepExp e)
   have h6 := QO n (deepPat p) (2^40 - 1) (by omega) (by omega)
   have h7 := QO (maxI n (deepPat p)) (deepExp e) (2^40 - 1) (by omega) (by omega)
   have He : rdeepExpOK e := H (.mk p e) (List.mem_cons_self)
   have := Q3m t hl suf (pre ++ [.mk p e]) (maxI (maxI n (deepPat p)) (deepExp e)) s (pre.length + 1) (by simpa using h) (by simp) (fun w hw => H w (List.mem_cons_of_mem _ hw)) (by omega) (by omega) (by omega)
   rw [Q43]; rw [Exp.cells_eq] at this ⊢; simp only [go_sem, Nat.reduceLeDiff, Nat.reduceSub, f1, f2, f3, Q0U _ p _ (Nat.le_refl _) (show p.size < 2^40 by omega), He s] at this ⊢
   exact this
theorem Q3l (t : Exp) (hl : t.kids.length < 2^40) (hl2 : t.cases.length < 2^40) (hc : Case.sizes t.cases < 2^40) (Hc : ∀ c ∈ t.cases, rdeepExpOK c.exp) : ∀ (suf pre : List Exp) (n : Int) (s : St) (i : Nat), pre ++ suf = t.kids → i = pre.length → (∀ c ∈ suf, rdeepExpOK c) → 0 ≤ n → n < 2^40 → Exp.sizes suf < 2^40 →
  Q0u (t.cells.map .val) (.val (.int .i64 n)) (.val (.int .i64 i)) s = some (.ret (.val (.int .i64 (deepCases t.cases (deepExps suf n) + 1))), s)
 | [], pre, n, s, i, h, hi, H, h0, h1, h2 => by
   subst hi
   have := Q3m t hl2 t.cases [] n s 0 rfl rfl Hc h0 h1 hc
   rw [Q42]; rw [Exp.cells_eq] at this ⊢; simp only [go_sem, Q8 (by simpa using h)] at this ⊢
   exact this
 | e :: suf, pre, n, s, i, h, hi, H, h0, h1, h2 => by
   subst hi
   obtain ⟨f1, f2, f3⟩ := Q6 (x := .val (encS t.kb (t.kids.map Exp.enc))) (Q9 _ _) h (by omega) (Exp.cells_len e) (by decide)
   have ht := Q08 e
   simp only [Exp.sizes] at h2
   have h4 := QN n (deepExp e)
   have h6 := QO n (deepExp e) (2^40 - 1) (by omega) (by omega)
   have He : rdeepExpOK e := H e (List.mem_cons_self)
   have := Q3l t hl hl2 hc Hc suf (pre ++ [e]) (maxI n (deepExp e)) s (pre.length + 1) (by simpa using h) (by simp) (fun w hw => H w (List.mem_cons_of_mem _ hw)) (by omega) (by omega) (by omega)
   rw [Q42]; rw [Exp.cells_eq] at this ⊢; simp only [go_sem, Nat.reduceLeDiff, f1, f2, f3, He s] at this ⊢
   exact this
theorem Q2p (d : Dec) (x0 : Slot) (j : Nat) (fx : ixS 7 x0 (.val (.int .i64 (j : Int))) = some (.val (.cp d.cells))) (n0 : Int) (hj : j < 2^40) (hl : d.cons.length < 2^40) : ∀ (suf pre : List Con) (n : Int) (s : St) (i : Nat), pre ++ suf = d.cons → i = pre.length → 0 ≤ n → n < 2^40 → Con.sizes suf < 2^40 →
  Q0G x0 (.val (.int .i64 n0)) (.val (.int .i64 j)) (.val (.int .i64 n)) (.val (.int .i64 i)) s = ZH x0 (.val (.int .i64 (maxI n0 (deepCons suf n + 1)))) (.val (.int .i64 (j + 1 : Nat))) s
 | [], pre, n, s, i, h, hi, h0, h1, h2 => by
   subst hi
   rw [Q65]; simp only [go_sem, fx, Dec.cells_eq, Q8 (by simpa using h)]
   rw [wrap64 (n := n + 1) (by omega) (by omega), wrap64 (by omega) (by omega)]; rfl
 | c :: suf, pre, n, s, i, h, hi, h0, h1, h2 => by
   subst hi
   obtain ⟨f1, f2, f3⟩ := Q6 (x := .val (encS d.nb (d.cons.map Con.enc))) (Q9 _ _) h (by omega) (Con.cells_len c) (by decide)
   have ht := Q3k c.arg
   simp only [Con.sizes, Con.size] at h2
   have hm := QO n (deepTy c.arg) (2^40 - 1)
   have hn := QN n (deepTy c.arg)
   obtain ⟨nm, a, hs, arg⟩ := c
   dsimp only at ht hm hn h2
   rw [Q65]; simp only [go_sem, Nat.reduceLeDiff, fx, Dec.cells_eq, f1, f2, f3, Con.cells]
   cases hs with
   | false =>
     simp only [go_sem]
     exact Q2p d x0 j fx n0 hj hl suf (pre ++ [_]) n s _ (by simpa using h) (by simp) (by omega) (by omega) (by omega)
   | true =>
     simp only [go_sem, Q5i _ arg _ (Nat.le_refl _) (show arg.size < 2^40 by omega)]
     exact Q2p d x0 j fx n0 hj hl suf (pre ++ [_]) _ s _ (by simpa using h) (by simp) (by omega) (by omega) (by omega)
theorem Q4O (d : Dec) (x0 : Slot) (j : Nat) (fx : ixS 7 x0 (.val (.int .i64 (j : Int))) = some (.val (.cp d.cells))) (n0 : Int) (hj : j < 2^40) (hl : d.funs.length < 2^40) (hl3 : d.cons.length < 2^40) (hc : Con.sizes d.cons < 2^40) : ∀ (suf pre : List Fun) (n : Int) (s : St) (i : Nat), pre ++ suf = d.funs → i = pre.length → (∀ f ∈ suf, rdeepExpOK f.case.exp) → 0 ≤ n → n < 2^40 → Fun.sizes suf < 2^40 →
  Q1U x0 (.val (.int .i64 n0)) (.val (.int .i64 j)) (.val (.int .i64 n)) (.val (.int .i64 i)) s = ZH x0 (.val (.int .i64 (maxI n0 (deepCons d.cons (deepFuns suf n) + 1)))) (.val (.int .i64 (j + 1 : Nat))) s
 | [], pre, n, s, i, h, hi, H, h0, h1, h2 => by
   subst hi
   have := Q2p d x0 j fx n0 hj hl3 d.cons [] n s 0 rfl rfl h0 h1 hc
   rw [Q64]; simp only [go_sem, Nat.reduceAdd, Nat.reduceLeDiff, fx, Dec.cells_eq, Q8 (by simpa using h)]
   exact this
 | .mk nm a (.mk p e) :: suf, pre, n, s, i, h, hi, H, h0, h1, h2 => by
   subst hi
   obtain ⟨f1, f2, f3⟩ := Q6 (x := .val (encS d.fb (d.funs.map Fun.enc))) (Q9 _ _) h (by omega) (Fun.cells_len (.mk nm a (.mk p e))) (by decide)
   have ht := Q08 e
   have hp := Q09 p
   simp only [Fun.sizes, Fun.size, Case.size] at h2
   have h4 := QN n (deepPat p)
   have h5 := QN (maxI n (deepPat p)) (deepExp e)
   have h6 := QO n (deepPat p) (2^40 - 1) (by omega) (by omega)
   have h7 := QO (maxI n (deepPat p)) (deepExp e) (2^40 - 1) (by omega) (by omega)
   have ha := QeM (.mk p e) n h0
   simp only [Case.pat, Case.exp] at ha
   have He : rdeepExpOK e := H (.mk nm a (.mk p e)) (List.mem_cons_self)
   have := Q4O d x0 j fx n0 hj hl hl3 hc suf (pre ++ [_]) (maxI (maxI n (deepPat p)) (deepExp e)) s (pre.length + 1) (by simpa using h) (by simp) (fun w hw => H w (List.mem_cons_of_mem _ hw)) (by omega) (by omega) (by omega)
   rw [Q64]; simp only [go_sem, Nat.reduceAdd, Nat.reduceLeDiff, Nat.reduceSub, fx, Dec.cells_eq, f1, f2, f3, Q0U _ p _ (Nat.le_refl _) (show p.size < 2^40 by omega), He s]
   simp only [deepFuns]
   rw [← ha]
   exact this
theorem Q4N (d : Dec) (x0 : Slot) (j : Nat) (fx : ixS 7 x0 (.val (.int .i64 (j : Int))) = some (.val (.cp d.cells))) (n0 : Int) (hj : j < 2^40) (hl : d.case.length < 2^40) (hl2 : d.funs.length < 2^40) (hl3 : d.cons.length < 2^40) (hc : Con.sizes d.cons < 2^40) (hf : Fun.sizes d.funs < 2^40) (HF : ∀ f ∈ d.funs, rdeepExpOK f.case.exp) : ∀ (suf pre : List Case) (n : Int) (s : St) (i : Nat), pre ++ suf = d.case → i = pre.length → (∀ f ∈ suf, rdeepExpOK f.exp) → 0 ≤ n → n < 2^40 → Case.sizes suf < 2^40 →
  Q1T x0 (.val (.int .i64 n0)) (.val (.int .i64 j)) (.val (.int .i64 n)) (.val (.int .i64 i)) s = ZH x0 (.val (.int .i64 (maxI n0 (deepCons d.cons (deepFuns d.funs (deepCases suf n)) + 1)))) (.val (.int .i64 (j + 1 : Nat))) s
 | [], pre, n, s, i, h, hi, H, h0, h1, h2 => by
   subst hi
   have := Q4O d x0 j fx n0 hj hl2 hl3 hc d.funs [] n s 0 rfl rfl HF h0 h1 hf
   rw [Q63]; simp only [go_sem, fx, Dec.cells_eq, Q8 (by simpa using h)]
   exact this
 | .mk p e :: suf, pre, n, s, i, h, hi, H, h0, h1, h2 => by
   subst hi
   obtain ⟨f1, f2, f3⟩ := Q6 (x := .val (encS d.cb (d.case.map Case.enc))) (Q9 _ _) h (by omega) (Case.cells_len (.mk p e)) (by decide)
   have ht := Q08 e
   have hp := Q09 p
   simp only [Case.sizes, Case.size] at h2
   have h4 := QN n (deepPat p)
   have h5 := QN (maxI n (deepPat p)) (deepExp e)
   have h6 := QO n (deepPat p) (2^40 - 1) (by omega) (by omega)
   have h7 := QO (maxI n (deepPat p)) (deepExp e) (2^40 - 1) (by omega) (by omega)
   have He : rdeepExpOK e := H (.mk p e) (List.mem_cons_self)
   have := Q4N d x0 j fx n0 hj hl hl2 hl3 hc hf HF suf (pre ++ [_]) (maxI (maxI n (deepPat p)) (deepExp e)) s (pre.length + 1) (by simpa using h) (by simp) (fun w hw => H w (List.mem_cons_of_mem _ hw)) (by omega) (by omega) (by omega)
   rw [Q63]; simp only [go_sem, Nat.reduceLeDiff, Nat.reduceSub, fx, Dec.cells_eq, f1, f2, f3, Q0U _ p _ (Nat.le_refl _) (show p.size < 2^40 by omega), He s]
   exact this
theorem Q3N (L : List Dec) (x : Slot) (hx : x.list? = some (L.map Dec.enc)) (hl : L.length < 2^40) : ∀ (suf pre : List Dec) (n : Int) (s : St) (i : Nat), pre ++ suf = L → i = pre.length → (∀ d ∈ suf, (∀ c ∈ d.case, rdeepExpOK c.exp) ∧ ∀ f ∈ d.funs, rdeepExpOK f.case.exp) → 0 ≤ n → n < 2^40 → Dec.sizes suf < 2^40 →
  ZH x (.val (.int .i64 n)) (.val (.int .i64 i)) s = some (.ret (.val (.int .i64 (deepDecs suf n))), s)
 | [], pre, n, s, i, h, hi, H, h0, h1, h2 => by
   subst hi
   rw [Q62]; simp only [go_sem, hx, Q8 (by simpa using h)]; rfl
 | .mk k a nm p l nb c cb f fb :: suf, pre, n, s, i, h, hi, H, h0, h1, h2 => by
   subst hi
   obtain ⟨f1, f2, f3⟩ := Q6 hx h (by omega) (Dec.cells_len (.mk k a nm p l nb c cb f fb)) (by decide)
   obtain ⟨hC, hF⟩ := H (.mk k a nm p l nb c cb f fb) (List.mem_cons_self)
   simp only [Dec.sizes, Dec.size] at h2
   have g1 := Q0s c 0
   have g2 := Q29 f (deepCases c 0)
   have g3 := Q2R l (deepFuns f (deepCases c 0))
   have g5 := QN n (deepCons l (deepFuns f (deepCases c 0)) + 1)
   have g6 := QO n (deepCons l (deepFuns f (deepCases c 0)) + 1) (2^40 - 1) (by omega) (by omega)
   have g7 := Fun.len_sizes f
   have g8 := Case.len_sizes c
   have g9 := Con.len_sizes l
   have hlen : pre.length < L.length := by rw [← h]; simp
   have := Q4N (.mk k a nm p l nb c cb f fb) x pre.length f2 n (by omega) (by simp only [Dec.case]; omega) (by simp only [Dec.funs]; omega) (by simp only [Dec.cons]; omega) (by simp only [Dec.cons]; omega) (by simp only [Dec.funs]; omega) hF c [] 0 s 0 rfl rfl hC (by decide) (by decide) (by omega)
   rw [show ((0 : Nat) : Int) = 0 from rfl] at this
   rw [Q62]; simp only [go_sem, hx, f1, f2, this]
   exact Q3N L x hx hl suf (pre ++ [_]) _ s _ (by simpa using h) (by simp) (fun u hu => H u (List.mem_cons_of_mem _ hu)) (by simp only [Dec.cons, Dec.funs]; omega) (by simp only [Dec.cons, Dec.funs]; omega) (by omega)
theorem Q7J : ∀ m : Nat, (∀ e : Exp, e.size ≤ m → e.size < 2^40 → rdeepExpOK e) ∧ (∀ l : List Dec, Dec.sizes l ≤ m → Dec.sizes l < 2^40 → rdeepDecsOK l) := by
 intro m
 induction m with
 | zero =>
   refine ⟨fun e h _ => ?_, fun l h _ v s hv => ?_⟩
   ·obtain ⟨k, a, nm, n, l, lb, c, cb, d, db⟩ := e
    simp only [Exp.size] at h; omega
   ·cases l with
    | cons c l => obtain ⟨k, a, nm, p, l, nb, c, cb, f, fb⟩ := c; simp only [Dec.sizes, Dec.size] at h; omega
    | nil =>
      rw [Q8H]
      exact Q3N [] _ hv (by decide) [] [] 0 s 0 rfl rfl (by simp) (by decide) (by decide) (by simp only [Dec.sizes]; decide)
 | succ m ih =>
   obtain ⟨ihE, ihD⟩ := ih
   have hcase : ∀ (c : List Case), Case.sizes c ≤ m + 1 → Case.sizes c < 2^40 → ∀ t ∈ c, rdeepExpOK t.exp := fun c h h' t ht => by
    have := Case.mem_sizes ht
    obtain ⟨p, e⟩ := t
    simp only [Case.size] at this
    exact ihE e (by omega) (by omega)
   refine ⟨fun e h h' s => ?_, fun l h h' v s hv => ?_⟩
   ·obtain ⟨k, a, nm, n, l, lb, c, cb, d, db⟩ := e
    simp only [Exp.size] at h h'
    have hl := Exp.len_sizes l
    have hl2 := Case.len_sizes c
    have g1 := Q28 d 0
    have hD := fun s => ihD d (by omega) (by omega) (encS db (d.map Dec.enc)) s (by simp only [go_sem])
    have := Q3l (.mk k a nm n l lb c cb d db) (by simp only [Exp.kids]; omega) (by simp only [Exp.cases]; omega) (by simp only [Exp.cases]; omega) (hcase c (by omega) (by omega)) l [] (deepDecs d 0) s 0 rfl rfl (fun t ht => ihE t (by have := Exp.mem_sizes ht; omega) (by have := Exp.mem_sizes ht; omega)) (by omega) (by omega) (by omega)
    rw [QaX]; simp only [go_sem, Nat.reduceAdd, Nat.reduceLeDiff, Exp.enc, hD] at this ⊢
    rw [show ((0 : Nat) : Int) = 0 from rfl] at this
    rw [this]
    simp only [Exp.cases, deepExp]
    rw [QfV]
   ·have := Dec.len_sizes l
    rw [Q8H]
    refine Q3N l _ hv (by omega) l [] 0 s 0 rfl rfl (fun t ht => ?_) (by decide) (by decide) h'
    have h1 := Dec.mem_sizes ht
    obtain ⟨k, a, nm, p, l, nb, c, cb, f, fb⟩ := t
    simp only [Dec.size] at h1
    refine ⟨hcase c (by omega) (by omega), fun g hg => ?_⟩
    have h2 := Fun.mem_sizes hg
    obtain ⟨nm, a, ⟨p, e⟩⟩ := g
    simp only [Dec.funs, Fun.size, Case.size] at h2
    exact ihE e (by omega) (by omega)
theorem Q9x (e : Exp) (s : St) (h : e.size < 2^40) : cw (.f QS) [e.enc] s = some (.ret (.val (.int .i64 (deepExp e))), s) := (Q7J e.size).1 e (Nat.le_refl _) h s
theorem QbT (l : List Dec) (nl : Bool) (s : St) (h : Dec.sizes l < 2^40) : cw (.f Zv) [encS nl (l.map Dec.enc)] s = some (.ret (.val (.int .i64 (deepDecs l 0))), s) := (Q7J (Dec.sizes l)).2 l (Nat.le_refl _) h _ s (by simp only [go_sem])
end Go.Proofs.YtinphnakebeloaaGreat