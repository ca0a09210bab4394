/- A part of the proof: SDecl3, PScope, SScope1, SScope2, SScope3, SScope4. -/
import Derived.Test.YtinphnakebeloaaM10
set_option linter.unusedVariables false
set_option linter.unusedSimpArgs false
namespace Go.Proofs.Ytinphnakebeloaa
open Go Go.Am
set_option linter.unusedVariables false
set_option maxRecDepth 4000
theorem MapSI.setNew {s0 s : St} {loc : Nat} {g : Str → Option Int} (h : MapSI s loc g) (m : Moves [] [] [] s0 s) (hl : s0.locs.length ≤ loc) (k : Str) (v : Int) :
  ∃ s', updateS (C.ti Q2) (C.ti Q1) s (.val (.mp loc)) (.val (.str k)) (.val (.int .i64 v)) = some (.no, s') ∧ MapSI s' loc (upd g k v) ∧ Moves [] [] [] s0 s' := by
 obtain ⟨s', e1, h1, m1, -⟩ := h.set k v
 exact ⟨s', e1, h1, m.since (m1 []) (fun i hi => by simp at hi; subst hi; exact .inr hl) (by simp)⟩
theorem Q2S (t : List Place) (hl : t.length < 2^28) (y : Slot) (hy : y.list? = some (t.map Place.enc)) (s0 : St) (loc : Nat) (hloc : s0.locs.length ≤ loc) : ∀ (suf pre : List Place) (g : Str → Option Int) (s : St) (i : Nat), Moves [] [] [] s0 s → MapSI s loc g → pre ++ suf = t → i = pre.length →
  ∃ s', Q0o (.val (.mp loc)) y (.val (.int .i64 t.length)) (.val (.int .i64 i)) s = some (.ret (.val (.mp loc)), s') ∧ MapSI s' loc (suf.foldl knownStep g) ∧ Grew s0 s'
 | [], pre, g, s, i, hm, hs, h, hi => by
   subst hi
   rw [Q4J]; simp only [go_sem, Q8 (by simpa using h)]
   exact ⟨s, rfl, hs, hm.toGrew⟩
 | p :: suf, pre, g, s, i, hm, hs, h, hi => by
   subst hi
   obtain ⟨f1, f2, f3⟩ := Q7 hy h (by omega) (Place.cells_len p) (by decide)
   rw [Q4J]
   cases hg : g p.data with
   | none =>
     obtain ⟨s1, e1, h1, m1⟩ := hs.setNew hm hloc p.data p.vars
     obtain ⟨s2, e2, h2, m2⟩ := Q2S t hl y hy s0 loc hloc suf (pre ++ [p]) (upd g p.data p.vars) s1 (pre.length + 1) m1 h1 (by simpa using h) (by simp)
     have g1 := hs.get2 p.data
     rw [hg] at g1
     simp only [go_sem, Nat.reduceAdd, Nat.reduceLeDiff, f1, f2, f3, Place.cells_eq, List.foldl_cons, knownStep, hg] at e2 ⊢
     simp only [go_sem, g1, e1, Option.getD_none, Option.isSome_none, Bool.not_false]
     exact ⟨s2, e2, h2, m2⟩
   | some n =>
     obtain ⟨s2, e2, h2, m2⟩ := Q2S t hl y hy s0 loc hloc suf (pre ++ [p]) g s (pre.length + 1) hm hs (by simpa using h) (by simp)
     have g1 := hs.get2 p.data
     rw [hg] at g1
     simp only [go_sem, Nat.reduceAdd, Nat.reduceLeDiff, f1, f2, f3, Place.cells_eq, List.foldl_cons, knownStep, hg] at e2 ⊢
     simp only [go_sem, g1, Option.getD_some, Option.isSome_some, Bool.not_true]
     exact ⟨s2, e2, h2, m2⟩
theorem Q9L (t : List Place) (hl : t.length < 2^28) (v : AV) (hv : (Slot.val v).list? = some (t.map Place.enc)) (s : St) :
  ∃ s', cw (.f Q2D) [v] s = some (.ret (.val (.mp s.locs.length)), s') ∧ MapSI s' s.locs.length (knownD t) ∧ Grew s s' := by
 have m0 : Moves [] [] [] s (s.addLoc (.map [] 0)) := (Moves.refl _ _ s).addLoc _
 obtain ⟨s1, e1, h1, m1⟩ := (MapSI.new s).setNew m0 (Nat.le_refl _) sInt (-1)
 obtain ⟨s2, e2, h2, m2⟩ := h1.setNew m1 (Nat.le_refl _) sBool (-1)
 obtain ⟨s3, e3, h3, m3⟩ := h2.setNew m2 (Nat.le_refl _) sUnit (-1)
 obtain ⟨s4, e4, h4, m4⟩ := h3.setNew m3 (Nat.le_refl _) sExn (-1)
 obtain ⟨s5, e5, h5, m5⟩ := h4.setNew m4 (Nat.le_refl _) sRef (-1)
 obtain ⟨s6, e6, h6, m6⟩ := h5.setNew m5 (Nat.le_refl _) sArrow (-1)
 obtain ⟨s7, e7, h7, m7⟩ := h6.setNew m6 (Nat.le_refl _) sStar (-1)
 obtain ⟨s8, e8, h8, m8⟩ := Q2S t hl (.val v) hv s s.locs.length (Nat.le_refl _) t [] known0 s7 0 m7 h7 rfl rfl
 refine ⟨s8, ?_, h8, m8⟩
 rw [show ((0 : Nat) : Int) = 0 from rfl] at e8
 simp only [sInt, sBool, sUnit, sExn, sRef, sArrow, sStar] at e1 e2 e3 e4 e5 e6 e7
 rw [Qc0]
 simp only [go_sem, Int.reduceNeg, e1, e2, e3, e4, e5, e6, e7, hv, List.length_map] at e8 ⊢
 exact e8
def wrFn (params : Int) (mloc me : Nat) : AV := .fn Q0H [.cp [.int .i64 params], .cp [.mp mloc], .vp me 0]
structure WrAt (s : St) (g : Str → Option Int) (params : Int) (mloc me : Nat) : Prop where
 map : MapSI s mloc g
 fn : s.locs[me]? = some (.var [.val (wrFn params mloc me)])
theorem WrAt.move {s s' : St} {g : Str → Option Int} {params : Int} {mloc me : Nat} (h : WrAt s g params mloc me) (k : Grew s s') : WrAt s' g params mloc me := ⟨h.map.move k, k.loc h.fn⟩
def WrOK (g : Str → Option Int) (params : Int) (mloc me : Nat) (t : Ty) : Prop := ∀ s, WrAt s g params mloc me → cw (.f Q0H) [t.enc, .cp [.int .i64 params], .cp [.mp mloc], .vp me 0] s = some (.ret (.val (.tup [.int .i64 (wrongD g params t).1, .str (wrongD g params t).2])), s)
theorem Q5p (g : Str → Option Int) (params : Int) (mloc me : Nat) (l : List Ty) (hl : l.length < 2^28) (y : Slot) (hy : y.list? = some (l.map Ty.enc)) (s : St) (hs : WrAt s g params mloc me) : ∀ (suf pre : List Ty) (i : Nat), pre ++ suf = l → i = pre.length → (∀ t ∈ suf, WrOK g params mloc me t) →
  Q0w (.val (.vp me 0)) y (.val (.int .i64 l.length)) (.val (.int .i64 i)) s = some (.ret (.val (.tup [.int .i64 (wrongsD g params suf).1, .str (wrongsD g params suf).2])), s)
 | [], pre, i, h, hi, H => by
   subst hi
   rw [Q3P]; simp only [go_sem, Q8 (by simpa using h), wrongsD]
 | t :: suf, pre, i, h, hi, H => by
   subst hi
   obtain ⟨f1, f2, f3⟩ := Q7 hy h (by omega) (Ty.cells_len t) (by decide)
   have e1 := H t List.mem_cons_self s hs
   have ih := Q5p g params mloc me l hl y hy s hs suf (pre ++ [t]) (pre.length + 1) (by simpa using h) (by simp) (fun w hw => H w (List.mem_cons_of_mem _ hw))
   have f4 : ∀ t : TI, ldV t false s (.val (.vp me 0)) = ofSlots t (([.val (wrFn params mloc me)] : List Slot).take t.size) := fun t => Zf hs.fn
   rw [Q3P]
   simp only [go_sem, Nat.reduceAdd, Nat.reduceLeDiff, ne_eq, f1, f2, f3, f4, wrFn, wrongsD, e1] at ih ⊢
   by_cases hn : (wrongD g params t).1 = 0
   ·simp only [go_sem, hn, ih, not_true_eq_false, if_false]
   ·simp only [go_sem, not_false_eq_true, hn, if_true]
theorem Q45 (g : Str → Option Int) (params : Int) (mloc me : Nat) : ∀ (k : Nat) (t : Ty), t.size ≤ k → WideTy t → WrOK g params mloc me t
 | 0, .mk _ _ _ _ _, h, _ => by simp only [Ty.size] at h; omega
 | k + 1, .mk kd n nm l nl, h, h' => fun s hs => by
   simp only [Ty.size] at h
   have hl := h'.len
   have e1 := Q5p g params mloc me l hl (.val (encS nl (l.map Ty.enc))) (Qc _ _) s hs l [] 0 rfl rfl (fun t ht => by
    have := Ty.mem_sizes ht
    exact Q45 g params mloc me k t (by omega) (h'.arg ht))
   rw [show ((0 : Nat) : Int) = 0 from rfl] at e1
   have g1 := hs.map.get2 nm
   rw [Q9M]
   by_cases hk : kd = 1
   ·subst hk
    simp only [go_sem, Nat.reduceAdd, Nat.reduceLeDiff, ne_eq, Ty.enc, wrongD, if_true]
    by_cases hn : n ≥ params
    ·simp only [go_sem, hn, if_true, decide_true]
    ·simp only [go_sem, hn, if_false, decide_false]
   ·cases hg : g nm with
    | none =>
      rw [hg] at g1
      simp only [go_sem, Nat.reduceAdd, Nat.reduceLeDiff, Ty.enc, wrongD, hk, hg, g1, if_false, decide_false, Option.isSome_none, Bool.not_false]
    | some m =>
      rw [hg] at g1
      simp only [go_sem, Nat.reduceAdd, Nat.reduceLeDiff, ne_eq, Ty.enc, wrongD, hk, hg, g1, if_false, decide_false, Option.isSome_some, Bool.not_true, Option.getD_some, List.length_map]
      by_cases h1 : m ≥ 0
      ·by_cases h2 : m = (l.length : Int)
       ·simp only [go_sem, not_false_eq_true, h1, h2, e1]
        simp
       ·simp only [go_sem, not_false_eq_true, h1, h2, e1]
        simp
      ·simp only [go_sem, h1, e1]
       simp
theorem Q9N (g : Str → Option Int) (params : Int) (t : Ty) (hw : WideTy t) (mloc : Nat) (s : St) (hs : MapSI s mloc g) : ∃ s', cw (.f Q4A) [.mp mloc, .int .i64 params, t.enc] s = some (.ret (.val (.tup [.int .i64 (wrongD g params t).1, .str (wrongD g params t).2])), s') ∧ Grew s s' := by
 have hg : Grew s (s.addLoc (.var [.val (wrFn params mloc s.locs.length)])) := (Grew.refl s).addLoc _
 have hf : (s.addLoc (.var [.val (wrFn params mloc s.locs.length)])).locs[s.locs.length]? = some (.var [.val (wrFn params mloc s.locs.length)]) := Q5i _ _
 have e1 := Q45 g params mloc s.locs.length _ t (Nat.le_refl _) hw _ ⟨hs.move hg, hf⟩
 have f4 : ∀ t : TI, ldV t false (s.addLoc (.var [.val (wrFn params mloc s.locs.length)])) (.val (.vp s.locs.length 0)) = ofSlots t (([.val (wrFn params mloc s.locs.length)] : List Slot).take t.size) := fun t => Zf hf
 refine ⟨_, ?_, hg⟩
 rw [Qc2]
 simp only [Ty.enc, wrFn] at e1 f4
 simp only [go_sem, Nat.reduceAdd, Nat.reduceLeDiff, Ty.enc, f4, e1, wrFn]
end Go.Proofs.Ytinphnakebeloaa
namespace Go.Proofs.Ytinphnakebeloaa
open Go Go.Am
set_option linter.unusedVariables false
structure ScI (σ : Type) where
 con : Str → Int → Int → σ → σ
 free : Str → Int → σ → σ
 fail : Int → Int → Str → σ → σ
 stop : σ → Bool
def addS (out : List Str) (s : Str) : List Str := if s ∈ out then out else out ++ [s]
def varsCases : List Case → List Str
 | [] => []
 | .mk p _ :: l => varsPat p ++ varsCases l
def namesOf (k : Int) (c : List Case) (f : List Fun) : List Str := (bif decide (k = 1) then varsCases c else bif decide (k = 2) then f.map Fun.name else []).foldl addS []
def namesD (d : Dec) : List Str := namesOf d.kind d.case d.funs
section
variable {σ : Type} (I : ScI σ)
mutual
def scPat : Pat → List Str × σ → List Str × σ
 | .mk k a nm _ l _, st => scPats l (bif decide (k = 2) || decide (k = 6) then (st.1 ++ [nm], if nm ∈ st.1 then I.fail 9 a nm st.2 else st.2) else bif decide (k = 4) then (st.1, I.con nm a l.length st.2) else st)
def scPats : List Pat → List Str × σ → List Str × σ
 | [], st => st
 | p :: l, st => scPats l (scPat p st)
end
def scVar (k a : Int) (nm : Str) (kids : Nat) (bd : List Str) (st : σ) : σ :=
 bif decide (k = 2) then (if nm ∈ bd then st else I.free nm a st) else bif decide (k = 3) then I.con nm a kids st else st
mutual
def scCase : Case → List Str → σ → σ
 | .mk p e, bd, st => scExp e (varsPat p ++ bd) (scPat I p ([], st)).2
def scExp : Exp → List Str → σ → σ
 | .mk k a nm _ l _ c _ d _, bd, st => bif I.stop st then st else
   scCases c (scDecs d bd (scVar I k a nm l.length bd st)).1 (scExps l (scDecs d bd (scVar I k a nm l.length bd st)).1 (scDecs d bd (scVar I k a nm l.length bd st)).2)
def scExps : List Exp → List Str → σ → σ
 | [], _, st => st
 | e :: l, bd, st => scExps l bd (scExp e bd st)
def scCases : List Case → List Str → σ → σ
 | [], _, st => st
 | c :: l, bd, st => scCases l bd (scCase c bd st)
def scDecs : List Dec → List Str → σ → List Str × σ
 | [], bd, st => (bd, st)
 | d :: r, bd, st => scDecs r (scDec d bd st).1 (scDec d bd st).2
def scDec : Dec → List Str → σ → List Str × σ
 | .mk k _ _ _ _ _ c _ f _, bd, st => bif decide (k = 1) then (namesOf k c f ++ bd, scVals c bd st) else bif decide (k = 2) then (namesOf k c f ++ bd, scFuns f (namesOf k c f ++ bd) [] st) else (bd, st)
def scVals : List Case → List Str → σ → σ
 | [], _, st => st
 | .mk p e :: r, bd, st => scVals r bd (scExp e bd (scPat I p ([], st)).2)
def scFuns : List Fun → List Str → List Str → σ → σ
 | [], _, _, st => st
 | .mk nm a c :: r, bd, had, st => scFuns r bd (had ++ [nm]) (scCase c bd (if nm ∈ had then I.fail 9 a nm st else st))
end
end
end Go.Proofs.Ytinphnakebeloaa
namespace Go.Proofs.Ytinphnakebeloaa
open Go Go.Am
set_option linter.unusedVariables false
set_option maxRecDepth 4000
theorem _root_.Go.Am.Moves.next {A B h0 h h' : List Nat} {s0 s s' : St} (m : Moves A h0 h s0 s) (c : Moves B h h' s s') (hB : ∀ i ∈ B, i ∈ A ∨ s0.locs.length ≤ i) : Moves A h0 h' s0 s' where
 tl := Nat.le_trans m.tl c.tl
 tk := fun k hk hn => by
  have := m.tl
  rw [c.tk k (by omega) (fun hm => (m.new k hm).elim hn (fun h => by omega)), m.tk k hk hn]
 new := fun k hk => (c.new k hk).elim (m.new k) (fun h => .inr (Nat.le_trans m.tl h))
 ll := Nat.le_trans m.ll c.ll
 lk := fun i hi hn => by
  have := m.ll
  rw [c.lk i (by omega) (fun hm => (hB i hm).elim hn (fun h => by omega)), m.lk i hi hn]
def KN (s : St) (loc : Nat) (bd : List Str) : Prop := ∃ g, MapSI s loc g ∧ ∀ k, (g k).getD 0 = (bd.count k : Int)
theorem KN.new (s : St) : KN (s.addLoc (.map [] 0)) s.locs.length [] := ⟨_, MapSI.new s, fun k => by simp⟩
theorem KN.lt {s : St} {loc : Nat} {bd : List Str} (h : KN s loc bd) : loc < s.locs.length := by obtain ⟨g, h1, -⟩ := h; exact h1.lt
theorem KN.at {s s' : St} {loc : Nat} {bd : List Str} (h : KN s loc bd) (e : s'.locs[loc]? = s.locs[loc]?) : KN s' loc bd := by
 obtain ⟨g, ⟨es, c, D, h1, h2⟩, h3⟩ := h
 exact ⟨g, ⟨es, c, D, by rw [e]; exact h1, h2⟩, h3⟩
theorem KN.moves {A h1 h2 : List Nat} {s s' : St} {loc : Nat} {bd : List Str} (h : KN s loc bd) (m : Moves A h1 h2 s s') (hn : loc ∉ A) : KN s' loc bd := h.at (m.lk loc h.lt hn)
theorem KN.get {s : St} {loc : Nat} {bd : List Str} (h : KN s loc bd) (k : Str) : lookupS (C.ti Q2) (C.ti Q1) s (.val (.mp loc)) (.val (.str k)) false = some (.val (.int .i64 (bd.count k : Nat))) := by
 obtain ⟨g, h1, h2⟩ := h
 rw [h1.get k, h2]
theorem KN.set {s : St} {loc : Nat} {bd bd' : List Str} (h : KN s loc bd) (k : Str) (n : Int) (hn : n = (bd'.count k : Nat)) (ho : ∀ k', k' ≠ k → bd'.count k' = bd.count k') :
  ∃ s', updateS (C.ti Q2) (C.ti Q1) s (.val (.mp loc)) (.val (.str k)) (.val (.int .i64 n)) = some (.no, s') ∧ KN s' loc bd' ∧ (∀ hs, Moves [loc] hs hs s s') ∧ s'.toks = s.toks ∧ s'.locs.length = s.locs.length := by
 obtain ⟨g, h1, h2⟩ := h
 obtain ⟨s', e1, h3, h4, h5, h6⟩ := h1.set k n
 refine ⟨s', e1, ⟨_, h3, fun k' => ?_⟩, h4, h5, h6⟩
 by_cases e : k' = k
 ·subst e; rw [Qdx]; exact hn
 ·rw [Qdw _ _ e, h2, ho k' e]
theorem Q5e {n : Nat} (h : n < 2^62) : IntKind.i64.wrap ((n : Int) + 1) = ((n + 1 : Nat) : Int) := by rw [wrap64 (by omega) (by omega)]; rfl
theorem Qhb {n : Nat} (h : n < 2^62) : IntKind.i64.wrap (((n + 1 : Nat) : Int) - 1) = (n : Int) := by rw [wrap64 (by omega) (by omega)]; omega
theorem KN.inc {s : St} {loc : Nat} {bd : List Str} (h : KN s loc bd) (k : Str) (hl : bd.length < 2^62) :
  ∃ s', updateS (C.ti Q2) (C.ti Q1) s (.val (.mp loc)) (.val (.str k)) (.val (.int .i64 (IntKind.i64.wrap ((bd.count k : Nat) + 1)))) = some (.no, s') ∧ KN s' loc (bd ++ [k]) ∧ (∀ hs, Moves [loc] hs hs s s') ∧ s'.toks = s.toks ∧ s'.locs.length = s.locs.length := by
 have := List.count_le_length (a := k) (l := bd)
 refine h.set k _ ?_ fun k' hk => ?_
 ·rw [Q5e (by omega)]; simp
 ·have : [k].count k' = 0 := List.count_eq_zero.2 (by simpa using hk)
  rw [List.count_append, this]; rfl
theorem KN.perm {s : St} {loc : Nat} {bd bd' : List Str} (h : KN s loc bd) (p : bd.Perm bd') : KN s loc bd' := by
 obtain ⟨g, h1, h2⟩ := h
 exact ⟨g, h1, fun k => by rw [h2, p.count_eq]⟩
section
variable {σ : Type}
structure ScOK (I : ScI σ) (wl kl : Nat) (A : List Nat) (cf : FuncId) (cc : List AV) (ff : FuncId) (fc : List AV) (R : Nat → σ → List Nat → St → Prop) : Prop where
 cell : ∀ {n st h s}, R n st h s → ∃ (b : TBad) (q : Bool), s.locs[wl]? = some (.var [.val (.mp kl), .val (.int .i64 b.kind), .val (.int .i64 b.at_), .val (.str b.name), .val (.fn cf cc), .val (.fn ff fc), .val (.bool (I.stop st)), .val (.bool q)])
 con : ∀ {n st h s} nm a k, R (n + 1) st h s → ∃ s' h', cw (.f cf) (.str nm :: .int .i64 a :: .int .i64 k :: cc) s = some (.ret (.val (.tup [])), s') ∧ R n (I.con nm a k st) h' s' ∧ Moves A h h' s s'
 free : ∀ {n st h s} nm a, R (n + 1) st h s → ∃ s' h', cw (.f ff) (.str nm :: .int .i64 a :: fc) s = some (.ret (.val (.tup [])), s') ∧ R n (I.free nm a st) h' s' ∧ Moves A h h' s s'
 fail : ∀ {n st h s} e nm a, R (n + 1) st h s → ∃ s' h', cw (.f QF) [.vp wl 0, .int .i64 e, .int .i64 a, .str nm] s = some (.ret (.val (.tup [])), s') ∧ R n (I.fail e a nm st) h' s' ∧ Moves A h h' s s'
 stab : ∀ {n st h s s'}, R n st h s → (∀ i ∈ A, s'.locs[i]? = s.locs[i]?) → (∀ k ∈ h, s'.toks[k]? = s.toks[k]?) → R n st h s'
 held : ∀ {n st h s}, R n st h s → ∀ k ∈ h, k < s.toks.length
 low : ∀ {n st h s}, R n st h s → ∀ i ∈ A, i < s.locs.length
 le : ∀ {n m st h s}, R n st h s → m ≤ n → R m st h s
 wA : wl ∈ A
 kA : kl ∉ A
structure RW (R : Nat → σ → List Nat → St → Prop) (kl : Nat) (n : Nat) (st : σ) (bd : List Str) (h : List Nat) (s : St) : Prop where
 r : R n st h s
 kn : KN s kl bd
 few : bd.length + n < 2^40
variable {I : ScI σ} {wl kl : Nat} {A : List Nat} {cf : FuncId} {cc : List AV} {ff : FuncId} {fc : List AV} {R : Nat → σ → List Nat → St → Prop}
theorem RW.other (H : ScOK I wl kl A cf cc ff fc R) {n : Nat} {st : σ} {bd : List Str} {h : List Nat} {s s' : St} (w : RW R kl n st bd h s) {B : List Nat} (m : Moves B h h s s') (ht : ∀ k ∈ h, s'.toks[k]? = s.toks[k]?) (hB : ∀ i ∈ B, i ∉ A ∧ i ≠ kl) : RW R kl n st bd h s' :=
 ⟨H.stab w.r (fun i hi => m.lk i (H.low w.r i hi) fun hb => (hB i hb).1 hi) ht, w.kn.moves m fun hb => (hB _ hb).2 rfl, w.few⟩
theorem RW.grew (H : ScOK I wl kl A cf cc ff fc R) {n : Nat} {st : σ} {bd : List Str} {h : List Nat} {s s' : St} (w : RW R kl n st bd h s) (g : Grew s s') : RW R kl n st bd h s' :=
 w.other H (Moves.grew [] h g) (fun k hk => by rw [List.getElem?_eq_getElem (H.held w.r k hk)]; exact g.tok (List.getElem?_eq_getElem _)) (by simp)
theorem RW.le (H : ScOK I wl kl A cf cc ff fc R) {n m : Nat} {st : σ} {bd : List Str} {h : List Nat} {s : St} (w : RW R kl n st bd h s) (k : m ≤ n) : RW R kl m st bd h s := ⟨H.le w.r k, w.kn, by have := w.few; omega⟩
theorem RW.of (H : ScOK I wl kl A cf cc ff fc R) {n m : Nat} {st st' : σ} {bd : List Str} {h h' : List Nat} {s s' : St} (w : RW R kl n st bd h s) (r : R m st' h' s') (k : m ≤ n) (M : Moves A h h' s s') : RW R kl m st' bd h' s' :=
 ⟨r, w.kn.moves M H.kA, by have := w.few; omega⟩
theorem RW.known (H : ScOK I wl kl A cf cc ff fc R) {n : Nat} {st : σ} {bd : List Str} {h : List Nat} {s : St} (w : RW R kl n st bd h s) : ldV (C.ti Qo) false s (.val (.vp wl 0)) = some (.val (.mp kl)) := by
 obtain ⟨b, q, hc⟩ := H.cell w.r
 rw [Zf hc]; simp only [go_sem]
theorem RW.conF (H : ScOK I wl kl A cf cc ff fc R) {n : Nat} {st : σ} {bd : List Str} {h : List Nat} {s : St} (w : RW R kl n st bd h s) : ldV (C.ti Qn) false s (.val (.vp wl 4)) = some (.val (.fn cf cc)) := by
 obtain ⟨b, q, hc⟩ := H.cell w.r
 rw [Zf hc]; simp only [go_sem]
theorem RW.freeF (H : ScOK I wl kl A cf cc ff fc R) {n : Nat} {st : σ} {bd : List Str} {h : List Nat} {s : St} (w : RW R kl n st bd h s) : ldV (C.ti QB) false s (.val (.vp wl 5)) = some (.val (.fn ff fc)) := by
 obtain ⟨b, q, hc⟩ := H.cell w.r
 rw [Zf hc]; simp only [go_sem]
theorem RW.stopB (H : ScOK I wl kl A cf cc ff fc R) {n : Nat} {st : σ} {bd : List Str} {h : List Nat} {s : St} (w : RW R kl n st bd h s) : ldV (C.ti Qg) false s (.val (.vp wl 6)) = some (.val (.bool (I.stop st))) := by
 obtain ⟨b, q, hc⟩ := H.cell w.r
 rw [Zf hc]; simp only [go_sem]
theorem RW.kset (H : ScOK I wl kl A cf cc ff fc R) {n m : Nat} {st : σ} {bd bd' : List Str} {h : List Nat} {s s' : St} (w : RW R kl n st bd h s) (k : KN s' kl bd') (M : ∀ hs, Moves [kl] hs hs s s') (t : s'.toks = s.toks) (f : bd'.length + m < 2^40) (l : m ≤ n) : RW R kl m st bd' h s' :=
 ⟨H.le (H.stab w.r (fun i hi => (M h).lk i (H.low w.r i hi) (by simp; intro e; subst e; exact H.kA hi)) (fun k _ => by rw [t])) l, k, f⟩
theorem Q5A (H : ScOK I wl kl A cf cc ff fc R) (l : List Str) (v : AV) (hv : (Slot.val v).list? = some (l.map .str)) (hl : l.length < 2^40) : ∀ (suf pre : List Str) (n : Nat) (st : σ) (bd : List Str) (h : List Nat) (s : St) (i : Nat), pre ++ suf = l → i = pre.length → RW R kl (n + suf.length) st bd h s →
  ∃ s', ZN (.val (.cp [.vp wl 0])) (.val (.cp [v])) (.val v) (.val (.int .i64 l.length)) (.val (.int .i64 i)) s = some (.ret (.val (.fn QA [.cp [v], .cp [.vp wl 0]])), s') ∧ RW R kl n st (bd ++ suf) h s' ∧ (∀ hs, Moves [kl] hs hs s s')
 | [], pre, n, st, bd, h, s, i, hp, hi, w => by
   subst hi
   rw [Q2z]; simp only [go_sem, Nat.reduceAdd, Nat.reduceLeDiff, Q8 (by simpa using hp)]
   exact ⟨s, rfl, by simpa using w, fun hs => .refl _ _ _⟩
 | k :: suf, pre, n, st, bd, h, s, i, hp, hi, w => by
   subst hi
   obtain ⟨f1, f2, f3⟩ := Q7 hv hp (by omega) (sz := 1) rfl (by decide)
   have hf := w.few
   obtain ⟨s1, e1, k1, m1, t1, -⟩ := w.kn.inc k (by simp only [List.length_cons] at hf; omega)
   simp only [List.length_cons] at w hf
   have w1 : RW R kl (n + suf.length) st (bd ++ [k]) h s1 := w.kset H k1 m1 t1 (by simp only [List.length_append, List.length_cons, List.length_nil]; omega) (by omega)
   obtain ⟨s2, e2, w2, m2⟩ := Q5A H l v hv hl suf (pre ++ [k]) n st (bd ++ [k]) h s1 (pre.length + 1) (by simpa using hp) (by simp) w1
   refine ⟨s2, ?_, by simpa using w2, fun hs => (m1 hs).trans (m2 hs)⟩
   rw [Q2z, ← e2]
   have g1 := w.known H
   have g2 := w.kn.get k
   simp only [go_sem, Nat.reduceAdd, Nat.reduceLeDiff, f1, f2, f3, g1, g2, e1]
theorem Q5B (H : ScOK I wl kl A cf cc ff fc R) (l : List Str) (v : AV) (hv : (Slot.val v).list? = some (l.map .str)) {n : Nat} {st : σ} {bd : List Str} {h : List Nat} {s : St} (w : RW R kl (n + l.length) st bd h s) :
  ∃ s', cw (.f Z6) [.vp wl 0, v] s = some (.ret (.val (.fn QA [.cp [v], .cp [.vp wl 0]])), s') ∧ RW R kl n st (l ++ bd) h s' ∧ (∀ hs, Moves [kl] hs hs s s') := by
 have hf := w.few
 obtain ⟨s2, e2, w2, m2⟩ := Q5A H l v hv (by omega) l [] n st bd h s 0 rfl rfl w
 refine ⟨s2, ?_, ⟨w2.r, w2.kn.perm List.perm_append_comm, by have := w2.few; simpa [Nat.add_comm] using this⟩, m2⟩
 rw [show ((0 : Nat) : Int) = 0 from rfl] at e2
 have hc : (Slot.val v).cellOk = true ∧ v.cells = [v] := by
  cases v <;> simp [Slot.list?] at hv <;> exact ⟨rfl, rfl⟩
 rw [Q7Z, ← e2]
 simp only [go_sem, Nat.reduceAdd, Nat.reduceLeDiff, hc.1, hv, List.length_map]
def BackOK (R : Nat → σ → List Nat → St → Prop) (kl : Nat) (f : FuncId) (c : List AV) (l : List Str) : Prop := ∀ {n : Nat} {st : σ} {bd bd' : List Str} {h : List Nat} {s : St}, RW R kl n st bd' h s → bd'.Perm (l ++ bd) →
 ∃ s', cw (.f f) c s = some (.ret (.val (.tup [])), s') ∧ RW R kl n st bd h s' ∧ (∀ hs, Moves [kl] hs hs s s')
theorem Q5y (H : ScOK I wl kl A cf cc ff fc R) (l : List Str) (v : AV) (hv : (Slot.val v).list? = some (l.map .str)) (hl : l.length < 2^40) : ∀ (suf pre : List Str) (n : Nat) (st : σ) (bd bd' : List Str) (h : List Nat) (s : St) (i : Nat), pre ++ suf = l → i = pre.length → RW R kl n st bd' h s → bd'.Perm (suf ++ bd) →
  ∃ s', Zs (.val (.cp [.vp wl 0])) (.val v) (.val (.int .i64 l.length)) (.val (.int .i64 i)) s = some (.ret (.val (.tup [])), s') ∧ RW R kl n st bd h s' ∧ (∀ hs, Moves [kl] hs hs s s')
 | [], pre, n, st, bd, bd', h, s, i, hp, hi, w, p => by
   subst hi
   rw [Q1Z]; simp only [go_sem, Nat.reduceAdd, Nat.reduceLeDiff, Q8 (by simpa using hp)]
   exact ⟨s, rfl, ⟨w.r, w.kn.perm p, by have := w.few; rw [p.length_eq] at this; simpa using this⟩, fun hs => .refl _ _ _⟩
 | k :: suf, pre, n, st, bd, bd', h, s, i, hp, hi, w, p => by
   subst hi
   obtain ⟨f1, f2, f3⟩ := Q7 hv hp (by omega) (sz := 1) rfl (by decide)
   have hf := w.few
   have hlen := p.length_eq
   have hlen2 := List.count_le_length (a := k) (l := suf ++ bd)
   simp only [List.cons_append, List.length_cons] at hlen
   have hcount : bd'.count k = (suf ++ bd).count k + 1 := by rw [p.count_eq]; simp
   obtain ⟨s1, e1, k1, m1, t1, -⟩ := w.kn.set (bd' := suf ++ bd) k (IntKind.i64.wrap (((bd'.count k : Nat) : Int) - 1)) (by rw [hcount, Qhb (by omega)]) (fun k' hk => by rw [p.count_eq, List.cons_append, List.count_cons_of_ne (Ne.symm hk)])
   have w1 : RW R kl n st (suf ++ bd) h s1 := w.kset H k1 m1 t1 (by omega) (by omega)
   obtain ⟨s2, e2, w2, m2⟩ := Q5y H l v hv hl suf (pre ++ [k]) n st bd (suf ++ bd) h s1 (pre.length + 1) (by simpa using hp) (by simp) w1 (List.Perm.refl _)
   refine ⟨s2, ?_, w2, fun hs => (m1 hs).trans (m2 hs)⟩
   rw [Q1Z, ← e2]
   have g1 := w.known H
   have g2 := w.kn.get k
   simp only [go_sem, Nat.reduceAdd, Nat.reduceLeDiff, f1, f2, f3, g1, g2, e1]
theorem Q5z (H : ScOK I wl kl A cf cc ff fc R) (l : List Str) (v : AV) (hv : (Slot.val v).list? = some (l.map .str)) (hl : l.length < 2^40) : BackOK R kl QA [.cp [v], .cp [.vp wl 0]] l := by
 intro n st bd bd' h s w p
 obtain ⟨s2, e2, w2, m2⟩ := Q5y H l v hv hl l [] n st bd bd' h s 0 rfl rfl w p
 refine ⟨s2, ?_, w2, m2⟩
 rw [show ((0 : Nat) : Int) = 0 from rfl] at e2
 rw [Q6K, ← e2]
 simp only [go_sem, Nat.reduceAdd, Nat.reduceLeDiff, hv, List.length_map]
theorem Qak : BackOK R kl Q0r [] [] := by
 intro n st bd bd' h s w p
 refine ⟨s, ?_, ⟨w.r, w.kn.perm p, by have := w.few; rw [p.length_eq] at this; simpa using this⟩, fun hs => .refl _ _ _⟩
 rw [Q7m]; simp only [go_sem]
end
end Go.Proofs.Ytinphnakebeloaa
namespace Go.Proofs.Ytinphnakebeloaa
open Go Go.Am
set_option linter.unusedVariables false
set_option maxRecDepth 4000
theorem Q67 (nm : Str) (l : List Str) (y : Slot) (hy : y.list? = some (l.map .str)) (hl : l.length < 2^40) (s : St) : ∀ (suf pre : List Str) (i : Nat), pre ++ suf = l → i = pre.length →
  ∃ r : Int, QJ y (.val (.str nm)) (.val (.int .i64 l.length)) (.val (.int .i64 i)) s = some (.ret (.val (.int .i64 r)), s) ∧ (r ≥ 0 ↔ nm ∈ suf)
 | [], pre, i, hp, hi => by
   subst hi
   rw [Q06]; simp only [go_sem, Int.reduceNeg, Q8 (by simpa using hp)]
   exact ⟨-1, rfl, by simp⟩
 | k :: suf, pre, i, hp, hi => by
   subst hi
   obtain ⟨f1, f2, f3⟩ := Q7 hy hp (by omega) (sz := 1) rfl (by decide)
   obtain ⟨r, e1, h1⟩ := Q67 nm l y hy hl s suf (pre ++ [k]) (pre.length + 1) (by simpa using hp) (by simp)
   rw [Q06]
   by_cases e : nm = k
   ·refine ⟨(pre.length : Int), ?_, by simp [e]⟩
    simp only [go_sem, Int.reduceNeg, Nat.reduceAdd, Nat.reduceLeDiff, f1, f2, f3, e, decide_true]
   ·refine ⟨r, ?_, by rw [h1]; simp [e]⟩
    rw [← e1]
    simp only [go_sem, Int.reduceNeg, Nat.reduceAdd, Nat.reduceLeDiff, f1, f2, f3, e, decide_false]
theorem Q43 (nm : Str) (l : List Str) (v : AV) (hv : (Slot.val v).list? = some (l.map .str)) (hl : l.length < 2^40) (s : St) : cw (.f QQ) [v, .str nm] s = some (.ret (.val (.bool (decide (nm ∈ l)))), s) := by
 obtain ⟨r, e1, h1⟩ := Q67 nm l (.val v) hv hl s l [] 0 rfl rfl
 rw [show ((0 : Nat) : Int) = 0 from rfl] at e1
 have e2 : cw (.f QZ) [v, .str nm] s = some (.ret (.val (.int .i64 r)), s) := by
  rw [Q39, ← e1]
  simp only [go_sem, hv, List.length_map]
 rw [Q2h]
 simp only [go_sem, e2]
 rw [decide_eq_decide.2 h1]
def NamesAt (ol : Nat) (s : St) (l : List Str) (h : List Nat) : Prop := ∃ x, s.locs[ol]? = some (.var [x]) ∧ HeldIs Q2 s x (l.map .str) h
theorem NamesAt.stab {ol : Nat} {s s' : St} {l : List Str} {h : List Nat} (n : NamesAt ol s l h) (e : s'.locs[ol]? = s.locs[ol]?) (t : ∀ k ∈ h, s'.toks[k]? = s.toks[k]?) : NamesAt ol s' l h := by
 obtain ⟨x, h1, h2⟩ := n
 exact ⟨x, by rw [e]; exact h1, h2.stab t⟩
theorem NamesAt.lt {ol : Nat} {s : St} {l : List Str} {h : List Nat} (n : NamesAt ol s l h) : ol < s.locs.length := by
 obtain ⟨x, h1, h2⟩ := n
 exact (List.getElem?_eq_some_iff.1 h1).1
theorem NamesAt.held {ol : Nat} {s : St} {l : List Str} {h : List Nat} (n : NamesAt ol s l h) : ∀ k ∈ h, k < s.toks.length := by
 obtain ⟨x, h1, h2⟩ := n
 exact h2.held
theorem NamesAt.grew {ol : Nat} {s s' : St} {l : List Str} {h : List Nat} (n : NamesAt ol s l h) (g : Grew s s') : NamesAt ol s' l h :=
 n.stab (by rw [List.getElem?_eq_getElem n.lt]; exact g.loc (List.getElem?_eq_getElem _)) fun k hk => by rw [List.getElem?_eq_getElem (n.held k hk)]; exact g.tok (List.getElem?_eq_getElem _)
theorem NamesAt.new (s : St) : NamesAt s.locs.length (s.addLoc (.var [.val .nils])) [] [] := ⟨_, Q5i _ _, .inl ⟨rfl, rfl, rfl⟩⟩
theorem NamesAt.push {ol : Nat} {s : St} {l : List Str} {h : List Nat} (n : NamesAt ol s l h) (hl : l.length < 2^28) (nm : Str) :
  ∃ x x' s1 s' h', s.locs[ol]? = some (.var [x]) ∧ (∃ v, x.av = some v ∧ (Slot.val v).list? = some (l.map .str)) ∧ appendS Q2 (C.ti Q2) s x (.full [.str nm]) = some (x', s1) ∧ x'.cellOk = true ∧ stV s1 (.val (.vp ol 0)) [x'] = some s' ∧ NamesAt ol s' (l ++ [nm]) h' ∧ Moves [ol] h h' s s' := by
 obtain ⟨x, h1, h2⟩ := n
 obtain ⟨x', s1, h', e1, h3, h4, m1⟩ := h2.appendF (B := [nm]) (t := C.ti Q2) (y := .full [.str nm]) rfl (fun a => by rw [Q0n]; rfl) (by rw [Q0n]; decide) (by simp only [List.length_singleton]; omega) (by rw [Q3x]; decide)
 have hat : s1.locs[ol]? = some (.var [x]) := by rw [h4]; exact h1
 refine ⟨x, x', s1, { s1 with locs := s1.locs.set ol (.var [x']) }, h', h1, ⟨_, h2.av, by simp only [go_sem]⟩, e1, h3.cellOk, ?_, ⟨x', Q81 hat, h3.stab fun _ _ => rfl⟩, (m1.wider (by simp)).setLoc (.inl (by simp)) _⟩
 rw [Q1J hat (by simp)]; rfl
theorem NamesAt.read {ol : Nat} {s : St} {l : List Str} {h : List Nat} (n : NamesAt ol s l h) : ∃ x v, ldV (C.ti Qa) false s (.val (.vp ol 0)) = some x ∧ x.av = some v ∧ (Slot.val v).list? = some (l.map .str) := by
 obtain ⟨x, h1, h2⟩ := n
 refine ⟨x, _, ?_, h2.av, by simp only [go_sem]⟩
 rw [Zf h1]; simp only [go_sem, Nat.reduceAdd, Nat.reduceLeDiff]
theorem Q3U {ol : Nat} {s : St} {l : List Str} {h : List Nat} (n : NamesAt ol s l h) (hl : l.length < 2^28) (nm : Str) :
  ∃ s' h', cw (.f Z8) [.str nm, .vp ol 0] s = some (.ret (.val (.tup [])), s') ∧ NamesAt ol s' (addS l nm) h' ∧ Moves [ol] h h' s s' := by
 obtain ⟨x, x', s1, s', h', h1, ⟨v, hv, hv2⟩, e1, hc, e2, n2, m2⟩ := n.push hl nm
 have e3 := Q43 nm l v hv2 (by omega) s
 have e4 : ldV (C.ti Qa) false s (.val (.vp ol 0)) = some x := by rw [Zf h1]; simp only [go_sem, Nat.reduceAdd, Nat.reduceLeDiff]
 by_cases hm : nm ∈ l
 ·refine ⟨s, h, ?_, by rw [addS, if_pos hm]; exact n, .refl _ _ _⟩
  rw [Q4Y]
  simp only [go_sem, Nat.reduceAdd, e4, Qu hv, e3, hm, decide_true, Bool.not_true]
 ·refine ⟨s', h', ?_, by rw [addS, if_neg hm]; exact n2, m2⟩
  rw [Q4Y]
  simp only [go_sem, Nat.reduceAdd, e4, Qu hv, e3, hm, decide_false, Bool.not_false, e1, hc, e2]
theorem Q1R : ∀ (l acc : List Str), acc.length ≤ (l.foldl addS acc).length ∧ (l.foldl addS acc).length ≤ acc.length + l.length
 | [], acc => by simp
 | k :: l, acc => by
   have := Q1R l (addS acc k)
   have h : (addS acc k).length = acc.length ∨ (addS acc k).length = acc.length + 1 := by
    unfold addS; split <;> simp
   simp only [List.foldl_cons, List.length_cons]; omega
theorem Q3k {ol : Nat} (L : List Str) (y : Slot) (hy : y.list? = some (L.map .str)) (hl : L.length < 2^28) (x1 : List Slot) (a b : Slot) (i0 : Nat) (hi0 : i0 < 2^40) : ∀ (suf pre : List Str) (s : St) (l : List Str) (h : List Nat) (i : Nat), pre ++ suf = L → i = pre.length → NamesAt ol s l h → l.length + suf.length < 2^28 →
  ∃ s' h', Q12 x1 (.val (.vp ol 0)) (.val (.fn Z8 [.vp ol 0])) a b (.val (.int .i64 i0)) y (.val (.int .i64 L.length)) (.val (.int .i64 i)) s = Q0f x1 (.val (.vp ol 0)) (.val (.fn Z8 [.vp ol 0])) a b (.val (.int .i64 (i0 + 1 : Nat))) s' ∧ NamesAt ol s' (suf.foldl addS l) h' ∧ Moves [ol] h h' s s'
 | [], pre, s, l, h, i, hp, hi, n, hlen => by
   subst hi
   refine ⟨s, h, ?_, n, .refl _ _ _⟩
   rw [Q4f]; simp only [go_sem, Q8 (by simpa using hp), Q5e (show i0 < 2^62 by omega)]
 | k :: suf, pre, s, l, h, i, hp, hi, n, hlen => by
   subst hi
   obtain ⟨f1, f2, f3⟩ := Q7 hy hp (by omega) (sz := 1) rfl (by decide)
   simp only [List.length_cons] at hlen
   obtain ⟨s1, h1, e1, n1, m1⟩ := Q3U n (by omega) k
   have hle : (addS l k).length ≤ l.length + 1 := by unfold addS; split <;> simp
   obtain ⟨s2, h2, e2, n2, m2⟩ := Q3k L y hy hl x1 a b i0 hi0 suf (pre ++ [k]) s1 (addS l k) h1 (pre.length + 1) (by simpa using hp) (by simp) n1 (by omega)
   refine ⟨s2, h2, ?_, n2, m1.trans m2⟩
   rw [Q4f, ← e2]
   simp only [go_sem, Nat.reduceAdd, Nat.reduceLeDiff, f1, f2, f3, e1]
theorem Q7k : ∀ l : List Case, (varsCases l).length ≤ Case.sizes l
 | [] => by simp [varsCases]
 | .mk p e :: l => by
   have h1 := Q2n p
   have h2 := Q7k l
   simp only [varsCases, List.length_append, Case.sizes, Case.size]; omega
theorem QfO (l : List Str) (a b : List Str) : (a ++ b).foldl addS l = b.foldl addS (a.foldl addS l) := List.foldl_append
theorem Q3l {ol : Nat} (F : List Fun) (y : Slot) (hy : y.list? = some (F.map Fun.enc)) (hl : F.length < 2^28) : ∀ (suf pre : List Fun) (s : St) (l : List Str) (h : List Nat) (i : Nat), pre ++ suf = F → i = pre.length → NamesAt ol s l h → l.length + suf.length < 2^28 →
  ∃ x s' h', Q13 (.val (.vp ol 0)) (.val (.fn Z8 [.vp ol 0])) y (.val (.int .i64 F.length)) (.val (.int .i64 i)) s = some (.ret x, s') ∧ HeldIs Q2 s' x (((suf.map Fun.name).foldl addS l).map .str) h' ∧ Moves [ol] h h' s s'
 | [], pre, s, l, h, i, hp, hi, n, hlen => by
   subst hi
   obtain ⟨x, h1, h2⟩ := n
   refine ⟨x, s, h, ?_, h2, .refl _ _ _⟩
   rw [Q4g]; simp only [go_sem, Nat.reduceAdd, Nat.reduceLeDiff, Q8 (by simpa using hp), Zf h1]
 | .mk nm a c :: suf, pre, s, l, h, i, hp, hi, n, hlen => by
   subst hi
   obtain ⟨f1, f2, f3⟩ := Q7 hy hp (by omega) (Fun.cells_len (.mk nm a c)) (by decide)
   simp only [List.length_cons] at hlen
   obtain ⟨s1, h1, e1, n1, m1⟩ := Q3U n (by omega) nm
   have hle : (addS l nm).length ≤ l.length + 1 := by unfold addS; split <;> simp
   obtain ⟨x, s2, h2, e2, n2, m2⟩ := Q3l F y hy hl suf (pre ++ [.mk nm a c]) s1 (addS l nm) h1 (pre.length + 1) (by simpa using hp) (by simp) n1 (by omega)
   refine ⟨x, s2, h2, ?_, n2, m1.trans m2⟩
   rw [Q4g, ← e2]
   simp only [go_sem, Nat.reduceAdd, Nat.reduceLeDiff, f1, f2, f3, e1]
theorem Q3i {ol : Nat} (d : Dec) (hd : d.size < 2^26) (s : St) (l : List Str) (h : List Nat) (n : NamesAt ol s l h) (hlen : l.length + d.funs.length < 2^28) :
  ∃ x s' h', Q11 (d.cells.map .val) (.val (.vp ol 0)) (.val (.fn Z8 [.vp ol 0])) s = some (.ret x, s') ∧ HeldIs Q2 s' x (((bif decide (d.kind = 2) then d.funs.map Fun.name else []).foldl addS l).map .str) h' ∧ Moves [ol] h h' s s' := by
 rw [Q8q]
 cases hk : decide (d.kind = 2) with
 | true =>
   obtain ⟨x, s', h', e1, h1, m1⟩ := Q3l d.funs (.val (encS d.fb (d.funs.map Fun.enc))) (Qc _ _) (by omega) d.funs [] s l h 0 rfl rfl n hlen
   refine ⟨x, s', h', ?_, h1, m1⟩
   rw [show ((0 : Nat) : Int) = 0 from rfl] at e1
   rw [← e1]
   simp only [go_sem, Nat.reduceAdd, Nat.reduceLeDiff, Dec.cells_eq, hk, List.map_cons, List.map_nil, List.length_map]
 | false =>
   obtain ⟨x, h1, h2⟩ := n
   refine ⟨x, s, h, ?_, h2, .refl _ _ _⟩
   simp only [go_sem, Nat.reduceAdd, Nat.reduceLeDiff, Dec.cells_eq, hk, List.map_cons, List.map_nil, Zf h1]
theorem Q3j {ol : Nat} (d : Dec) (hd : d.size < 2^26) (y : Slot) (hy : y.list? = some (d.case.map Case.enc)) (hk : d.kind ≠ 2) : ∀ (suf pre : List Case) (s : St) (l : List Str) (h : List Nat) (i : Nat), pre ++ suf = d.case → i = pre.length → NamesAt ol s l h → l.length + Case.sizes suf < 2^27 → Case.sizes suf < 2^26 → d.case.length < 2^26 → d.funs.length < 2^26 →
  ∃ x s' h', Q0f (d.cells.map .val) (.val (.vp ol 0)) (.val (.fn Z8 [.vp ol 0])) y (.val (.int .i64 d.case.length)) (.val (.int .i64 i)) s = some (.ret x, s') ∧ HeldIs Q2 s' x (((varsCases suf).foldl addS l).map .str) h' ∧ Moves [ol] h h' s s'
 | [], pre, s, l, h, i, hp, hi, n, hlen, hsz, hc, hf => by
   subst hi
   obtain ⟨x, s', h', e1, h1, m1⟩ := Q3i d hd s l h n (by omega)
   refine ⟨x, s', h', ?_, by simpa [decide_eq_false hk, varsCases] using h1, m1⟩
   rw [Q4e]; simp only [go_sem, Q8 (by simpa using hp), e1]
 | .mk p e :: suf, pre, s, l, h, i, hp, hi, n, hlen, hsz, hc, hf => by
   subst hi
   obtain ⟨f1, f2, f3⟩ := Q7 hy hp (by omega) (Case.cells_len (.mk p e)) (by decide)
   simp only [Case.sizes, Case.size] at hlen hsz
   have hv := Q2n p
   have hpl : pre.length < d.case.length := by rw [← hp]; simp
   obtain ⟨x1, s1, e1, a1⟩ := Q6l p s (by omega)
   obtain ⟨s2, h2, e2, n2, m2⟩ := Q3k (ol := ol) (varsPat p) x1 a1.list? (by omega) (d.cells.map .val) y (.val (.int .i64 d.case.length)) pre.length (by omega) (varsPat p) [] s1 l h 0 rfl rfl (n.grew a1.grew) (by omega)
   have hfl := Q1R (varsPat p) l
   obtain ⟨x, s3, h3, e3, n3, m3⟩ := Q3j d hd y hy hk suf (pre ++ [.mk p e]) s2 ((varsPat p).foldl addS l) h2 (pre.length + 1) (by simpa using hp) (by simp) n2 (by omega) (by omega) hc hf
   refine ⟨x, s3, h3, ?_, by simpa only [varsCases, QfO] using n3, ((Moves.grew [ol] h a1.grew).trans m2).trans m3⟩
   rw [← e3, ← e2]
   rw [show ((0 : Nat) : Int) = 0 from rfl]
   rw [Q4e]
   simp only [Pat.enc, Pat.cells_eq] at e1
   simp only [go_sem, Nat.reduceAdd, Nat.reduceLeDiff, f1, f2, Case.cells_mk, Pat.cells_eq, e1, a1.list?, List.length_map]
theorem Q50 (d : Dec) (hd : d.size < 2^26) (s : St) : ∃ x s' h', cw (.f Z3) [d.enc] s = some (.ret x, s') ∧ HeldIs Q2 s' x ((namesD d).map .str) h' ∧ Grew s s' := by
 have n0 := NamesAt.new s
 have m0 : Moves [] [] [] s (s.addLoc (.var [.val .nils])) := (Moves.refl _ _ s).addLoc _
 have done : ∀ {s' h'}, Moves [s.locs.length] [] h' (s.addLoc (.var [.val .nils])) s' → Grew s s' := fun {s' h'} m => by
  have := (m0.next m (by simp)).shrink (g := []) (by simp)
  exact this.toGrew
 have hsz : d.case.length < 2^26 ∧ d.funs.length < 2^26 ∧ Case.sizes d.case < 2^26 := by
  cases d with
  | mk k a nm p l lb c cb f fb =>
    have h1 := Case.len_sizes c
    have h2 := Fun.len_sizes f
    simp only [Dec.size, Dec.case, Dec.funs] at *
    omega
 rw [Qbe]
 by_cases hk : d.kind = 1
 ·have hk2 : d.kind ≠ 2 := by omega
  obtain ⟨x, s', h', e1, h1, m1⟩ := Q3j (ol := s.locs.length) d hd (.val (encS d.cb (d.case.map Case.enc))) (Qc _ _) hk2 d.case [] _ [] [] 0 rfl rfl n0 (by simp only [List.length_nil]; omega) hsz.2.2 hsz.1 hsz.2.1
  refine ⟨x, s', h', ?_, by simpa [namesD, namesOf, hk] using h1, done m1⟩
  rw [show ((0 : Nat) : Int) = 0 from rfl] at e1
  rw [← e1]
  simp only [go_sem, Nat.reduceAdd, Dec.enc, Dec.cells_eq, hk, List.map_cons, List.map_nil, List.length_map]
 ·obtain ⟨x, s', h', e1, h1, m1⟩ := Q3i (ol := s.locs.length) d hd _ [] [] n0 (by simp only [List.length_nil]; omega)
  refine ⟨x, s', h', ?_, by simpa [namesD, namesOf, hk] using h1, done m1⟩
  rw [← e1]
  simp only [go_sem, Nat.reduceAdd, Dec.enc, Dec.cells_eq, hk, decide_false, List.map_cons, List.map_nil, List.length_map]
end Go.Proofs.Ytinphnakebeloaa
namespace Go.Proofs.Ytinphnakebeloaa
open Go Go.Am
set_option linter.unusedVariables false
set_option maxRecDepth 4000
section
variable {σ : Type} {I : ScI σ} {wl kl : Nat} {A : List Nat} {cf : FuncId} {cc : List AV} {ff : FuncId} {fc : List AV} {R : Nat → σ → List Nat → St → Prop}
structure PW (R : Nat → σ → List Nat → St → Prop) (kl hl : Nat) (n : Nat) (st : List Str × σ) (bd : List Str) (h : List Nat) (s : St) : Prop where
 w : RW R kl n st.2 bd h s
 kn : KN s hl st.1
 few : st.1.length + n < 2^40
def PatWOK (I : ScI σ) (R : Nat → σ → List Nat → St → Prop) (wl kl : Nat) (A : List Nat) (p : Pat) : Prop := ∀ hl n st bd h s, hl ∉ A → hl ≠ kl → PW R kl hl (n + p.size) st bd h s →
 ∃ s' h', cw (.f QP) [.vp wl 0, p.enc, .mp hl] s = some (.ret (.val (.tup [])), s') ∧ PW R kl hl n (scPat I p st) bd h' s' ∧ Moves (hl :: A) h h' s s'
theorem Q6i (H : ScOK I wl kl A cf cc ff fc R) {hl : Nat} (hA : hl ∉ A) (hk : hl ≠ kl) (l : List Pat) (y : Slot) (hy : y.list? = some (l.map Pat.enc)) (hlen : l.length < 2^40) (hs : Pat.sizes l < 2^40) : ∀ (suf pre : List Pat) (n : Nat) (st : List Str × σ) (bd : List Str) (h : List Nat) (s : St) (i : Nat), pre ++ suf = l → i = pre.length → (∀ p ∈ suf, PatWOK I R wl kl A p) → PW R kl hl (n + Pat.sizes suf) st bd h s →
  ∃ s' h', ZZ (.val (.vp wl 0)) (.val (.mp hl)) y (.val (.int .i64 l.length)) (.val (.int .i64 i)) s = some (.ret (.val (.tup [])), s') ∧ PW R kl hl n (scPats I suf st) bd h' s' ∧ Moves (hl :: A) h h' s s'
 | [], pre, n, st, bd, h, s, i, hp, hi, hP, w => by
   subst hi
   rw [Q38]; simp only [go_sem, Q8 (by simpa using hp)]
   exact ⟨s, h, rfl, by simpa [Pat.sizes, scPats] using w, .refl _ _ _⟩
 | p :: suf, pre, n, st, bd, h, s, i, hp, hi, hP, w => by
   subst hi
   obtain ⟨f1, f2, f3⟩ := Q7 hy hp (by omega) (Pat.cells_len p) (by decide)
   simp only [Pat.sizes] at w
   obtain ⟨s1, h1, e1, w1, m1⟩ := hP p List.mem_cons_self hl (n + Pat.sizes suf) st bd h s hA hk ⟨w.w.le H (by omega), w.kn, by have := w.few; omega⟩
   obtain ⟨s2, h2, e2, w2, m2⟩ := Q6i H hA hk l y hy hlen hs suf (pre ++ [p]) n (scPat I p st) bd h1 s1 (pre.length + 1) (by simpa using hp) (by simp) (fun q hq => hP q (List.mem_cons_of_mem _ hq)) w1
   refine ⟨s2, h2, ?_, by simpa only [scPats] using w2, m1.trans m2⟩
   rw [Q38, ← e2]
   simp only [Pat.enc, Pat.cells_eq] at e1
   simp only [go_sem, Nat.reduceAdd, Nat.reduceLeDiff, f1, f2, f3, Pat.cells_eq, e1]
theorem Q32 (H : ScOK I wl kl A cf cc ff fc R) {hl : Nat} (hA : hl ∉ A) (hk : hl ≠ kl) (p : Pat) (hP : ∀ q ∈ p.kids, PatWOK I R wl kl A q) (n : Nat) (st : List Str × σ) (bd : List Str) (h : List Nat) (s : St) (w : PW R kl hl (n + Pat.sizes p.kids) st bd h s) :
  ∃ s' h', Z7 (.val (.vp wl 0)) (.val (.mp hl)) (p.cells.map .val) s = some (.ret (.val (.tup [])), s') ∧ PW R kl hl n (scPats I p.kids st) bd h' s' ∧ Moves (hl :: A) h h' s s' := by
 have := Pat.len_sizes p.kids
 have hf := w.few
 obtain ⟨s1, h1, e1, w1, m1⟩ := Q6i H hA hk p.kids (.val (encS p.kb (p.kids.map Pat.enc))) (Qc _ _) (by omega) (by omega) p.kids [] n st bd h s 0 rfl rfl hP w
 refine ⟨s1, h1, ?_, w1, m1⟩
 rw [show ((0 : Nat) : Int) = 0 from rfl] at e1
 rw [Q6N, ← e1]
 simp only [go_sem, Nat.reduceAdd, Nat.reduceLeDiff, Pat.cells_eq, List.map_cons, List.map_nil, List.length_map]
theorem PW.had (H : ScOK I wl kl A cf cc ff fc R) {hl : Nat} (hA : hl ∉ A) (hk : hl ≠ kl) {n : Nat} {st : List Str × σ} {bd : List Str} {h : List Nat} {s : St} (w : PW R kl hl (n + 1) st bd h s) (nm : Str) :
  ∃ s1, updateS (C.ti Q2) (C.ti Q1) s (.val (.mp hl)) (.val (.str nm)) (.val (.int .i64 (IntKind.i64.wrap ((st.1.count nm : Nat) + 1)))) = some (.no, s1) ∧ lookupS (C.ti Q2) (C.ti Q1) s1 (.val (.mp hl)) (.val (.str nm)) false = some (.val (.int .i64 (st.1.count nm + 1 : Nat))) ∧ RW R kl (n + 1) st.2 bd h s1 ∧ KN s1 hl (st.1 ++ [nm]) ∧ Moves (hl :: A) h h s s1 := by
 have hf := w.few
 obtain ⟨s1, e1, k1, m1, t1, -⟩ := w.kn.inc nm (by omega)
 refine ⟨s1, e1, ?_, w.w.other H (m1 h) (fun k _ => by rw [t1]) (by simpa using ⟨hA, hk⟩), k1, (m1 h).wider (by simp)⟩
 rw [k1.get nm]; simp
theorem Q5k {nm : Str} {l : List Str} : decide (((l.count nm + 1 : Nat) : Int) > 1) = decide (nm ∈ l) := by
 rw [decide_eq_decide]
 constructor
 ·intro h; exact List.count_pos_iff.1 (by omega)
 ·intro h; have := List.count_pos_iff.2 h; omega
theorem Qdp (H : ScOK I wl kl A cf cc ff fc R) {hl : Nat} (hA : hl ∉ A) (hk : hl ≠ kl) (p : Pat) (hP : ∀ q ∈ p.kids, PatWOK I R wl kl A q) (n : Nat) (st : List Str × σ) (bd : List Str) (h : List Nat) (s : St) (w : PW R kl hl (n + p.size) st bd h s) (x : Bool) (hx : x = (decide (p.kind = 2) || decide (p.kind = 6))) :
  ∃ s' h', ZY (.val (.vp wl 0)) (.val (.mp hl)) (p.cells.map .val) (.val (.int .i64 p.kind)) (.val (.bool x)) s = some (.ret (.val (.tup [])), s') ∧ PW R kl hl n (scPat I p st) bd h' s' ∧ Moves (hl :: A) h h' s s' := by
 cases p with
 | mk k a nm num l nl =>
 simp only [Pat.size, Pat.kind] at w hx
 have hf := w.few
 rw [Q6M]
 have hsc : scPat I (.mk k a nm num l nl) st = scPats I l (bif x then (st.1 ++ [nm], if nm ∈ st.1 then I.fail 9 a nm st.2 else st.2) else bif decide (k = 4) then (st.1, I.con nm a l.length st.2) else st) := by rw [hx]; rfl
 rw [hsc]
 clear hsc hx
 cases x with
 | true =>
   simp only [cond_true]
   obtain ⟨s1, e1, e2, w1, k1, m1⟩ := PW.had (n := n + Pat.sizes l) H hA hk ⟨w.w.le H (by omega), w.kn, by omega⟩ nm
   have g2 := w.kn.get nm
   by_cases hm : nm ∈ st.1
   ·obtain ⟨s2, h2, e3, r3, m3⟩ := H.fail 9 nm a w1.r
    have w3 := w1.of H r3 (by omega) m3
    obtain ⟨s4, h4, e4, w4, m4⟩ := Q32 H hA hk (.mk k a nm num l nl) hP n (st.1 ++ [nm], I.fail 9 a nm st.2) bd h2 s2 ⟨w3, k1.moves m3 hA, by simp only [List.length_append, List.length_cons, List.length_nil]; simp only [Pat.kids]; omega⟩
    refine ⟨s4, h4, ?_, by simpa only [hm, if_true, Pat.kids] using w4, (m1.trans (m3.wider (by simp +contextual))).trans m4⟩
    rw [← e4]
    simp only [go_sem, Nat.reduceAdd, Nat.reduceLeDiff, Pat.cells_mk, List.map_cons, List.map_nil, g2, e1, e2, Q5k, hm, decide_true, e3]
   ·obtain ⟨s4, h4, e4, w4, m4⟩ := Q32 H hA hk (.mk k a nm num l nl) hP n (st.1 ++ [nm], st.2) bd h s1 ⟨w1.le H (by simp only [Pat.kids]; omega), k1, by simp only [List.length_append, List.length_cons, List.length_nil]; simp only [Pat.kids]; omega⟩
    refine ⟨s4, h4, ?_, by simpa only [hm, if_false, Pat.kids] using w4, m1.trans m4⟩
    rw [← e4]
    simp only [go_sem, Nat.reduceAdd, Nat.reduceLeDiff, Pat.cells_mk, List.map_cons, List.map_nil, g2, e1, e2, Q5k, hm, decide_false]
 | false =>
   simp only [cond_false]
   by_cases hk4 : k = 4
   ·obtain ⟨s2, h2, e3, r3, m3⟩ := H.con (n := n + Pat.sizes l) nm a (l.length : Int) (H.le w.w.r (by omega))
    have w3 := w.w.of H r3 (by omega) m3
    obtain ⟨s4, h4, e4, w4, m4⟩ := Q32 H hA hk (.mk k a nm num l nl) hP n (st.1, I.con nm a l.length st.2) bd h2 s2 ⟨w3, w.kn.moves m3 hA, by simp only [Pat.kids]; omega⟩
    refine ⟨s4, h4, ?_, by simpa only [hk4, decide_true, cond_true, Pat.kids] using w4, (m3.wider (by simp +contextual)).trans m4⟩
    rw [← e4]
    have g3 := w.w.conF H
    simp only [go_sem, Nat.reduceAdd, Nat.reduceLeDiff, Pat.cells_mk, Pat.kind, List.map_cons, List.map_nil, hk4, g3, e3, List.length_map, List.cons_append, List.nil_append]
   ·obtain ⟨s4, h4, e4, w4, m4⟩ := Q32 H hA hk (.mk k a nm num l nl) hP n st bd h s ⟨w.w.le H (by simp only [Pat.kids]; omega), w.kn, by simp only [Pat.kids]; omega⟩
    refine ⟨s4, h4, ?_, by simpa only [decide_eq_false hk4, cond_false, Pat.kids] using w4, m4⟩
    rw [← e4]
    simp only [go_sem, Nat.reduceAdd, Nat.reduceLeDiff, Pat.cells_mk, Pat.kind, List.map_cons, List.map_nil, decide_eq_false hk4]
theorem Q6j (H : ScOK I wl kl A cf cc ff fc R) : ∀ (m : Nat) (p : Pat), p.size ≤ m → PatWOK I R wl kl A p
 | 0, .mk _ _ _ _ _ _, hm => by simp only [Pat.size] at hm; omega
 | m + 1, .mk k a nm num l nl, hm => fun hl n st bd h s hA hk w => by
   simp only [Pat.size] at hm
   have e1 := fun x hx => Qdp H hA hk (.mk k a nm num l nl) (fun q hq => by
    have := Pat.mem_sizes hq
    simp only [Pat.kids] at this
    exact Q6j H m q (by omega)) n st bd h s w x hx
   rw [Q8t]
   simp only [Pat.cells_mk, List.map_cons, List.map_nil, Pat.kind] at e1
   by_cases h2 : k = 2
   ·obtain ⟨s', h', e2, w2, m2⟩ := e1 true (by simp [h2])
    refine ⟨s', h', ?_, w2, m2⟩
    rw [← e2]
    simp only [go_sem, Int.reduceEq, Nat.reduceAdd, Pat.enc, h2, decide_true]
   ·obtain ⟨s', h', e2, w2, m2⟩ := e1 (decide (k = 6)) (show _ = (decide (k = 2) || decide (k = 6)) by rw [decide_eq_false h2, Bool.false_or])
    refine ⟨s', h', ?_, w2, m2⟩
    rw [← e2]
    simp only [go_sem, Nat.reduceAdd, Pat.enc, decide_eq_false h2]
end
end Go.Proofs.Ytinphnakebeloaa
namespace Go.Proofs.Ytinphnakebeloaa
open Go Go.Am
set_option linter.unusedVariables false
set_option maxRecDepth 4000
section
variable {σ : Type} {I : ScI σ} {wl kl : Nat} {A : List Nat} {cf : FuncId} {cc : List AV} {ff : FuncId} {fc : List AV} {R : Nat → σ → List Nat → St → Prop}
def ExpWOK (I : ScI σ) (R : Nat → σ → List Nat → St → Prop) (wl kl : Nat) (A : List Nat) (e : Exp) : Prop := ∀ n st bd h s, RW R kl (n + 2 * e.size) st bd h s →
 ∃ s' h', cw (.f Qy) [.vp wl 0, e.enc] s = some (.ret (.val (.tup [])), s') ∧ RW R kl n (scExp I e bd st) bd h' s' ∧ Moves (kl :: A) h h' s s'
def CaseWOK (I : ScI σ) (R : Nat → σ → List Nat → St → Prop) (wl kl : Nat) (A : List Nat) (c : Case) : Prop := ∀ n st bd h s, RW R kl (n + 2 * c.size) st bd h s →
 ∃ s' h', cw (.f ZX) [.vp wl 0, c.enc] s = some (.ret (.val (.tup [])), s') ∧ RW R kl n (scCase I c bd st) bd h' s' ∧ Moves (kl :: A) h h' s s'
def DecWOK (I : ScI σ) (R : Nat → σ → List Nat → St → Prop) (wl kl : Nat) (A : List Nat) (d : Dec) : Prop := ∀ n st bd h s, RW R kl (n + 2 * d.size) st bd h s →
 ∃ s' h' f c l, cw (.f ZG) [.vp wl 0, d.enc] s = some (.ret (.val (.fn f c)), s') ∧ RW R kl n (scDec I d bd st).2 (scDec I d bd st).1 h' s' ∧ Moves (kl :: A) h h' s s' ∧ (scDec I d bd st).1 = l ++ bd ∧ BackOK R kl f c l
theorem Q7h (H : ScOK I wl kl A cf cc ff fc R) (p : Pat) {n : Nat} {st : σ} {bd : List Str} {h : List Nat} {s : St} (w : RW R kl (n + p.size) st bd h s) :
  ∃ s' h', cw (.f QP) [.vp wl 0, p.enc, .mp s.locs.length] (s.addLoc (.map [] 0)) = some (.ret (.val (.tup [])), s') ∧ RW R kl n (scPat I p ([], st)).2 bd h' s' ∧ Moves (kl :: A) h h' s s' := by
 have g : Grew s (s.addLoc (.map [] 0)) := (Grew.refl s).addLoc _
 have hf := w.few
 obtain ⟨s1, h1, e1, w1, m1⟩ := Q6j H _ p (Nat.le_refl _) s.locs.length n ([], st) bd h (s.addLoc (.map [] 0)) (fun hm => by have := H.low w.r _ hm; omega) (fun e => by have := w.kn.lt; omega) ⟨w.grew H g, KN.new s, by simp only [List.length_nil]; omega⟩
 refine ⟨s1, h1, e1, w1.w, (Moves.grew (kl :: A) h g).next m1 fun i hi => ?_⟩
 rcases List.mem_cons.1 hi with rfl | hi
 ·exact .inr (Nat.le_refl _)
 ·exact .inl (List.mem_cons_of_mem _ hi)
theorem Qaj (H : ScOK I wl kl A cf cc ff fc R) (p : Pat) (e : Exp) (he : ExpWOK I R wl kl A e) (hsz : p.size < 2^26) : CaseWOK I R wl kl A (.mk p e) := by
 intro n st bd h s w
 simp only [Case.size] at w
 have hf := w.few
 have hv := Q2n p
 obtain ⟨s1, h1, e1, w1, m1⟩ := Q7h (n := n + 2 * e.size + (varsPat p).length) H p (w.le H (by omega)) (st := st)
 obtain ⟨x2, s2, e2, a2⟩ := Q6l p s1 hsz
 obtain ⟨nl, hav⟩ := a2.av
 have hl2 : (Slot.val (encS nl ((varsPat p).map .str))).list? = some ((varsPat p).map .str) := Qc _ _
 obtain ⟨s3, e3, w3, m3⟩ := Q5B H (varsPat p) _ hl2 (w1.grew H a2.grew)
 obtain ⟨s4, h4, e4, w4, m4⟩ := he n _ _ _ _ w3
 obtain ⟨s5, e5, w5, m5⟩ := Q5z H (varsPat p) _ hl2 (by omega) w4 (List.Perm.refl _)
 refine ⟨s5, h4, ?_, w5, (((m1.trans (Moves.grew _ _ a2.grew)).trans ((m3 _).wider (by simp))).trans m4).trans ((m5 _).wider (by simp))⟩
 rw [Q80]
 simp only [Pat.enc, Pat.cells_eq] at e1 e2
 simp only [Exp.enc, Exp.cells_eq] at e4
 simp only [go_sem, Nat.reduceAdd, Nat.reduceLeDiff, Case.enc, Case.cells_mk, Pat.cells_eq, Exp.cells_eq, e1, e2, Qu hav, e3, e4, e5]
theorem Q5D (H : ScOK I wl kl A cf cc ff fc R) (x3 : List Slot) (x4 : Slot) (l : List Exp) (y : Slot) (hy : y.list? = some (l.map Exp.enc)) (hlen : l.length < 2^40) : ∀ (suf pre : List Exp) (n : Nat) (st : σ) (bd : List Str) (h : List Nat) (s : St) (i : Nat), pre ++ suf = l → i = pre.length → (∀ p ∈ suf, ExpWOK I R wl kl A p) → RW R kl (n + 2 * Exp.sizes suf) st bd h s →
  ∃ s' h', QU (.val (.vp wl 0)) x3 x4 y (.val (.int .i64 l.length)) (.val (.int .i64 i)) s = QU (.val (.vp wl 0)) x3 x4 y (.val (.int .i64 l.length)) (.val (.int .i64 l.length)) s' ∧ RW R kl n (scExps I suf bd st) bd h' s' ∧ Moves (kl :: A) h h' s s'
 | [], pre, n, st, bd, h, s, i, hp, hi, hP, w => by
   subst hi
   have hpl : pre.length = l.length := by rw [← hp]; simp
   exact ⟨s, h, by rw [hpl], by simpa [Exp.sizes, scExps] using w, .refl _ _ _⟩
 | p :: suf, pre, n, st, bd, h, s, i, hp, hi, hP, w => by
   subst hi
   obtain ⟨f1, f2, f3⟩ := Q7 hy hp (by omega) (Exp.cells_len p) (by decide)
   simp only [Exp.sizes] at w
   obtain ⟨s1, h1, e1, w1, m1⟩ := hP p List.mem_cons_self (n + 2 * Exp.sizes suf) st bd h s (w.le H (by omega))
   obtain ⟨s2, h2, e2, w2, m2⟩ := Q5D H x3 x4 l y hy hlen suf (pre ++ [p]) n (scExp I p bd st) bd h1 s1 (pre.length + 1) (by simpa using hp) (by simp) (fun q hq => hP q (List.mem_cons_of_mem _ hq)) w1
   refine ⟨s2, h2, ?_, by simpa only [scExps] using w2, m1.trans m2⟩
   rw [← e2, Q35]
   simp only [Exp.enc, Exp.cells_eq] at e1
   simp only [go_sem, Nat.reduceAdd, Nat.reduceLeDiff, f1, f2, f3, Exp.cells_eq, e1]
theorem Q4X (H : ScOK I wl kl A cf cc ff fc R) (x4 : Slot) (l : List Case) (y : Slot) (hy : y.list? = some (l.map Case.enc)) (hlen : l.length < 2^40) : ∀ (suf pre : List Case) (n : Nat) (st : σ) (bd : List Str) (h : List Nat) (s : St) (i : Nat), pre ++ suf = l → i = pre.length → (∀ p ∈ suf, CaseWOK I R wl kl A p) → RW R kl (n + 2 * Case.sizes suf) st bd h s →
  ∃ s' h', QV (.val (.vp wl 0)) x4 y (.val (.int .i64 l.length)) (.val (.int .i64 i)) s = QV (.val (.vp wl 0)) x4 y (.val (.int .i64 l.length)) (.val (.int .i64 l.length)) s' ∧ RW R kl n (scCases I suf bd st) bd h' s' ∧ Moves (kl :: A) h h' s s'
 | [], pre, n, st, bd, h, s, i, hp, hi, hP, w => by
   subst hi
   have hpl : pre.length = l.length := by rw [← hp]; simp
   exact ⟨s, h, by rw [hpl], by simpa [Case.sizes, scCases] using w, .refl _ _ _⟩
 | .mk p e :: suf, pre, n, st, bd, h, s, i, hp, hi, hP, w => by
   subst hi
   obtain ⟨f1, f2, f3⟩ := Q7 hy hp (by omega) (Case.cells_len (.mk p e)) (by decide)
   simp only [Case.sizes] at w
   obtain ⟨s1, h1, e1, w1, m1⟩ := hP (.mk p e) List.mem_cons_self (n + 2 * Case.sizes suf) st bd h s (w.le H (by omega))
   obtain ⟨s2, h2, e2, w2, m2⟩ := Q4X H x4 l y hy hlen suf (pre ++ [.mk p e]) n (scCase I (.mk p e) bd st) bd h1 s1 (pre.length + 1) (by simpa using hp) (by simp) (fun q hq => hP q (List.mem_cons_of_mem _ hq)) w1
   refine ⟨s2, h2, ?_, by simpa only [scCases] using w2, m1.trans m2⟩
   rw [← e2, Q36]
   simp only [Case.enc, Case.cells_mk, Pat.cells_eq, Exp.cells_eq, List.cons_append, List.nil_append] at e1
   simp only [go_sem, Nat.reduceAdd, Nat.reduceLeDiff, f1, f2, f3, Case.cells_mk, Pat.cells_eq, Exp.cells_eq, e1]
structure Bk where
 f : FuncId
 c : List AV
 l : List Str
abbrev Bk.enc (b : Bk) : AV := .fn b.f b.c
def Bk.OK (R : Nat → σ → List Nat → St → Prop) (kl : Nat) (b : Bk) : Prop := BackOK R kl b.f b.c b.l
theorem Q4W (B : List Bk) (y : Slot) (hy : y.list? = some (B.map Bk.enc)) (hlen : B.length < 2^40) : ∀ (suf pre : List Bk) (n : Nat) (st : σ) (bd bd' : List Str) (h : List Nat) (s : St) (i : Nat), pre ++ suf = B → i = pre.length → (∀ b ∈ suf, b.OK R kl) → RW R kl n st bd' h s → bd'.Perm (suf.flatMap Bk.l ++ bd) →
  ∃ s', Zz y (.val (.int .i64 B.length)) (.val (.int .i64 i)) s = some (.ret (.val (.tup [])), s') ∧ RW R kl n st bd h s' ∧ (∀ hs, Moves [kl] hs hs s s')
 | [], pre, n, st, bd, bd', h, s, i, hp, hi, hB, w, p => by
   subst hi
   rw [Q37]; simp only [go_sem, Q8 (by simpa using hp)]
   exact ⟨s, rfl, ⟨w.r, w.kn.perm p, by have := w.few; rw [p.length_eq] at this; simpa using this⟩, fun hs => .refl _ _ _⟩
 | b :: suf, pre, n, st, bd, bd', h, s, i, hp, hi, hB, w, p => by
   subst hi
   obtain ⟨f1, f2, f3⟩ := Q7 hy hp (by omega) (sz := 1) rfl (by decide)
   obtain ⟨s1, e1, w1, m1⟩ := hB b List.mem_cons_self w (bd := suf.flatMap Bk.l ++ bd) (by simpa using p)
   obtain ⟨s2, e2, w2, m2⟩ := Q4W B y hy hlen suf (pre ++ [b]) n st bd _ h s1 (pre.length + 1) (by simpa using hp) (by simp) (fun q hq => hB q (List.mem_cons_of_mem _ hq)) w1 (List.Perm.refl _)
   refine ⟨s2, ?_, w2, fun hs => (m1 hs).trans (m2 hs)⟩
   rw [Q37, ← e2]
   simp only [go_sem, Nat.reduceAdd, Nat.reduceLeDiff, f1, f2, f3, e1, List.nil_append]
theorem Q5C (H : ScOK I wl kl A cf cc ff fc R) (x3 : List Slot) (l : List Dec) (y : Slot) (hy : y.list? = some (l.map Dec.enc)) (hlen : l.length < 2^26) (s0 : St) (h0 : List Nat) (bd0 : List Str) : ∀ (suf pre : List Dec) (B : List Bk) (x : Slot) (n : Nat) (st : σ) (bd : List Str) (h : List Nat) (s : St) (i : Nat), pre ++ suf = l → i = pre.length → B.length = pre.length → (∀ p ∈ suf, DecWOK I R wl kl A p) → RW R kl (n + 2 * Dec.sizes suf) st bd h s →
  AccH ZW s0.toks.length h s x (B.map Bk.enc) → Moves (kl :: A) h0 h s0 s → (∀ b ∈ B, b.OK R kl) → bd.Perm (B.flatMap Bk.l ++ bd0) →
  ∃ s' h' x' , ∃ B' : List Bk, QT (.val (.vp wl 0)) x3 x y (.val (.int .i64 l.length)) (.val (.int .i64 i)) s = QT (.val (.vp wl 0)) x3 x' y (.val (.int .i64 l.length)) (.val (.int .i64 l.length)) s' ∧ RW R kl n (scDecs I suf bd st).2 (scDecs I suf bd st).1 h' s' ∧ x'.list? = some (B'.map Bk.enc) ∧ B'.length = l.length ∧ Moves (kl :: A) h0 h' s0 s' ∧ (∀ b ∈ B', b.OK R kl) ∧ (scDecs I suf bd st).1.Perm (B'.flatMap Bk.l ++ bd0)
 | [], pre, B, x, n, st, bd, h, s, i, hp, hi, hb, hP, w, a, m, hB, p => by
   subst hi
   have hpl : pre.length = l.length := by rw [← hp]; simp
   exact ⟨s, h, x, B, by rw [hpl], by simpa [Dec.sizes, scDecs] using w, a.list?, by omega, m, hB, by simpa only [scDecs] using p⟩
 | d :: suf, pre, B, x, n, st, bd, h, s, i, hp, hi, hb, hP, w, a, m, hB, p => by
   subst hi
   obtain ⟨f1, f2, f3⟩ := Q7 hy hp (by omega) (Dec.cells_len d) (by decide)
   have hlt : pre.length < l.length := by rw [← hp]; simp
   simp only [Dec.sizes] at w
   obtain ⟨s1, h1, f, c, ns, e1, w1, m1, q1, b1⟩ := hP d List.mem_cons_self (n + 2 * Dec.sizes suf) st bd h s (w.le H (by omega))
   have M1 := m.trans m1
   obtain ⟨x2, s2, e2, a2, M2, l2, t2, t3⟩ := AccH.appendF (f := Bk.enc) (B := [⟨f, c, ns⟩]) (t := C.ti ZW) (y := .full [.fn f c]) (a.move m1) M1 (H.held w1.r) rfl (fun a => by rw [Q6X]; rfl) (by rw [Q6X]; decide) (by simp only [List.length_singleton]; omega) (by rw [QaH]; decide)
   have w2 : RW R kl (n + 2 * Dec.sizes suf) (scDec I d bd st).2 (scDec I d bd st).1 h1 s2 := ⟨H.stab w1.r (fun i _ => by rw [l2]) t2, w1.kn.at (by rw [l2]), w1.few⟩
   obtain ⟨s3, h3, x3', B3, e3, w3, a3, k3, M3, O3, P3⟩ := Q5C H x3 l y hy hlen s0 h0 bd0 suf (pre ++ [d]) (B ++ [⟨f, c, ns⟩]) x2 n (scDec I d bd st).2 (scDec I d bd st).1 h1 s2 (pre.length + 1) (by simpa using hp) (by simp) (by simp [hb]) (fun q hq => hP q (List.mem_cons_of_mem _ hq)) w2 a2 M2
    (fun b hb' => by
      rcases List.mem_append.1 hb' with h | h
      ·exact hB b h
      ·simp only [List.mem_singleton] at h; subst h; exact b1)
    (by
      rw [q1, List.flatMap_append]
      simp only [List.flatMap_cons, List.flatMap_nil, List.append_nil]
      exact ((List.Perm.append_left ns p).trans (by rw [← List.append_assoc]; exact List.Perm.append_right bd0 List.perm_append_comm)))
   refine ⟨s3, h3, x3', B3, ?_, by simpa only [scDecs] using w3, a3, k3, M3, O3, by simpa only [scDecs] using P3⟩
   rw [← e3, Q34]
   simp only [Dec.enc, Dec.cells_eq] at e1
   simp only [go_sem, Nat.reduceAdd, Nat.reduceLeDiff, f1, f2, f3, Dec.cells_eq, e1, e2]
theorem Qdn (H : ScOK I wl kl A cf cc ff fc R) (e : Exp) (hsz : e.size < 2^26) (hD : ∀ d ∈ e.decs, DecWOK I R wl kl A d) (hK : ∀ k ∈ e.kids, ExpWOK I R wl kl A k) (hC : ∀ c ∈ e.cases, CaseWOK I R wl kl A c) (n : Nat) (st : σ) (bd : List Str) (h : List Nat) (s : St) (w : RW R kl (n + 2 * (Exp.sizes e.kids + Case.sizes e.cases + Dec.sizes e.decs)) st bd h s) :
  ∃ s' h', QS (.val (.vp wl 0)) (e.cells.map .val) s = some (.ret (.val (.tup [])), s') ∧ RW R kl n (scCases I e.cases (scDecs I e.decs bd st).1 (scExps I e.kids (scDecs I e.decs bd st).1 (scDecs I e.decs bd st).2)) bd h' s' ∧ Moves (kl :: A) h h' s s' := by
 have hlen : e.decs.length < 2^26 ∧ e.kids.length < 2^26 ∧ e.cases.length < 2^26 := by
  cases e with
  | mk k a nm num l lb c cb d db =>
    have h1 := Exp.len_sizes l
    have h2 := Case.len_sizes c
    have h3 := Dec.len_sizes d
    simp only [Exp.size, Exp.decs, Exp.kids, Exp.cases] at *
    omega
 obtain ⟨s1, h1, x1, B, e1, w1, a1, k1, M1, O1, P1⟩ := Q5C H (e.cells.map .val) e.decs (.val (encS e.db (e.decs.map Dec.enc))) (Qc _ _) hlen.1 s h bd e.decs [] [] (.val .nils) (n + 2 * (Exp.sizes e.kids + Case.sizes e.cases)) st bd h s 0 rfl rfl rfl hD (w.le H (by omega)) (AccH.nil _ _ _ _) (.refl _ _ _) (by simp) (by simp)
 obtain ⟨s2, h2, e2, w2, m2⟩ := Q5D H (e.cells.map .val) x1 e.kids (.val (encS e.kb (e.kids.map Exp.enc))) (Qc _ _) (by omega) e.kids [] (n + 2 * Case.sizes e.cases) _ _ h1 s1 0 rfl rfl hK (w1.le H (by omega))
 obtain ⟨s3, h3, e3, w3, m3⟩ := Q4X H x1 e.cases (.val (encS e.cb (e.cases.map Case.enc))) (Qc _ _) (by omega) e.cases [] n _ _ h2 s2 0 rfl rfl hC w2
 obtain ⟨s4, e4, w4, m4⟩ := Q4W B x1 a1 (by omega) B [] n _ bd _ h3 s3 0 rfl rfl O1 w3 P1
 refine ⟨s4, h3, ?_, w4, ((M1.trans m2).trans m3).trans ((m4 _).wider (by simp))⟩
 rw [show ((0 : Nat) : Int) = 0 from rfl] at e1 e2 e3 e4
 have d1 : decide ((e.decs.length : Int) < (e.decs.length : Int)) = false := by simp
 have d2 : decide ((e.kids.length : Int) < (e.kids.length : Int)) = false := by simp
 have d3 : decide ((e.cases.length : Int) < (e.cases.length : Int)) = false := by simp
 rw [k1] at e4
 have E0 : QS (.val (.vp wl 0)) (e.cells.map .val) s = QT (.val (.vp wl 0)) (e.cells.map .val) (.val .nils) (.val (encS e.db (e.decs.map Dec.enc))) (.val (.int .i64 e.decs.length)) (.val (.int .i64 0)) s := by
  rw [Q6L]; simp only [go_sem, Nat.reduceAdd, Nat.reduceLeDiff, Exp.cells_eq, List.map_cons, List.map_nil, List.length_map]
 have E1 : QT (.val (.vp wl 0)) (e.cells.map .val) x1 (.val (encS e.db (e.decs.map Dec.enc))) (.val (.int .i64 e.decs.length)) (.val (.int .i64 e.decs.length)) s1 = QU (.val (.vp wl 0)) (e.cells.map .val) x1 (.val (encS e.kb (e.kids.map Exp.enc))) (.val (.int .i64 e.kids.length)) (.val (.int .i64 0)) s1 := by
  rw [Q34]; simp only [go_sem, d1, Exp.cells_eq, List.map_cons, List.map_nil, List.length_map]
 have E2 : QU (.val (.vp wl 0)) (e.cells.map .val) x1 (.val (encS e.kb (e.kids.map Exp.enc))) (.val (.int .i64 e.kids.length)) (.val (.int .i64 e.kids.length)) s2 = QV (.val (.vp wl 0)) x1 (.val (encS e.cb (e.cases.map Case.enc))) (.val (.int .i64 e.cases.length)) (.val (.int .i64 0)) s2 := by
  rw [Q35]; simp only [go_sem, d2, Exp.cells_eq, List.map_cons, List.map_nil, List.length_map]
 have E3 : QV (.val (.vp wl 0)) x1 (.val (encS e.cb (e.cases.map Case.enc))) (.val (.int .i64 e.cases.length)) (.val (.int .i64 e.cases.length)) s3 = Zz x1 (.val (.int .i64 e.decs.length)) (.val (.int .i64 0)) s3 := by
  rw [Q36]; simp only [go_sem, d3, a1, List.length_map, k1]
 rw [E0, e1, E1, e2, E2, e3, E3, e4]
theorem Qdo (H : ScOK I wl kl A cf cc ff fc R) (e : Exp) (hsz : e.size < 2^26) (hD : ∀ d ∈ e.decs, DecWOK I R wl kl A d) (hK : ∀ k ∈ e.kids, ExpWOK I R wl kl A k) (hC : ∀ c ∈ e.cases, CaseWOK I R wl kl A c) : ExpWOK I R wl kl A e := by
 intro n st bd h s w
 cases e with
 | mk k a nm num l lb c cb d db =>
 have j := fun n st h s w => Qdn H (.mk k a nm num l lb c cb d db) hsz hD hK hC n st bd h s w
 simp only [Exp.cells_mk, List.map_cons, List.map_nil, Exp.kids, Exp.cases, Exp.decs] at j
 have g1 := w.stopB H
 have g2 := w.known H
 have g3 := w.kn.get nm
 have g4 := w.conF H
 have g5 := w.freeF H
 simp only [Exp.size] at w
 rw [Q8s]
 simp only [scExp]
 cases hs : I.stop st with
 | true =>
   refine ⟨s, h, ?_, by simpa only [cond_true] using w.le H (by omega), .refl _ _ _⟩
   rw [hs] at g1
   simp only [go_sem, Nat.reduceAdd, Exp.enc, Exp.cells_mk, List.map_cons, List.map_nil, g1]
 | false =>
   rw [hs] at g1
   simp only [cond_false]
   by_cases h2 : k = 2
   ·subst h2
    by_cases hm : nm ∈ bd
    ·obtain ⟨s1, h1, e1, w1, m1⟩ := j n st h s (w.le H (by omega))
     refine ⟨s1, h1, ?_, by simpa [scVar, hm] using w1, m1⟩
     rw [← e1]
     have hc : decide (((bd.count nm : Nat) : Int) = 0) = false := by have := List.count_pos_iff.2 hm; simp only [decide_eq_false_iff_not]; omega
     simp only [go_sem, Int.reduceEq, Nat.reduceAdd, Exp.enc, Exp.cells_mk, List.map_cons, List.map_nil, g1, g2, g3, decide_true, hc]
    ·obtain ⟨s0, h0, e0, r0, m0⟩ := H.free (n := n + 2 * (Exp.sizes l + Case.sizes c + Dec.sizes d)) nm a (H.le w.r (by omega))
     obtain ⟨s1, h1, e1, w1, m1⟩ := j n _ h0 s0 (w.of H r0 (by omega) m0)
     refine ⟨s1, h1, ?_, by simpa [scVar, hm] using w1, (m0.wider (by simp +contextual)).trans m1⟩
     rw [← e1]
     have hc : decide (((bd.count nm : Nat) : Int) = 0) = true := by have := List.count_eq_zero.2 hm; simp only [decide_eq_true_eq]; omega
     simp only [go_sem, Int.reduceEq, Nat.reduceAdd, Exp.enc, Exp.cells_mk, List.map_cons, List.map_nil, g1, g2, g3, g5, decide_true, hc, e0, List.cons_append, List.nil_append]
   ·by_cases h3 : k = 3
    ·subst h3
     obtain ⟨s0, h0, e0, r0, m0⟩ := H.con (n := n + 2 * (Exp.sizes l + Case.sizes c + Dec.sizes d)) nm a (l.length : Int) (H.le w.r (by omega))
     obtain ⟨s1, h1, e1, w1, m1⟩ := j n _ h0 s0 (w.of H r0 (by omega) m0)
     refine ⟨s1, h1, ?_, by simpa [scVar] using w1, (m0.wider (by simp +contextual)).trans m1⟩
     rw [← e1]
     simp only [go_sem, Int.reduceEq, Nat.reduceAdd, Exp.enc, Exp.cells_mk, List.map_cons, List.map_nil, g1, g4, decide_true, Int.reduceEq, decide_false, e0, List.cons_append, List.nil_append, List.length_map]
    ·obtain ⟨s1, h1, e1, w1, m1⟩ := j n st h s (w.le H (by omega))
     refine ⟨s1, h1, ?_, by simpa [scVar, h2, h3] using w1, m1⟩
     rw [← e1]
     simp only [go_sem, Nat.reduceAdd, Exp.enc, Exp.cells_mk, List.map_cons, List.map_nil, g1, decide_eq_false h2, decide_eq_false h3]
end
end Go.Proofs.Ytinphnakebeloaa