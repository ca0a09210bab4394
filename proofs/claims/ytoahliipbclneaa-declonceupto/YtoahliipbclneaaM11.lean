/- A part of the proof: SDecl3, PScope, SScope1, SDecl4, SDecl5, PRef11, PWithin, PRight, PDeclEq. -/
import Derived.Test.YtoahliipbclneaaM8
import Derived.Test.YtoahliipbclneaaM10
set_option linter.unusedVariables false
set_option linter.unusedSimpArgs false
namespace Go.Proofs.Ytoahliipbclneaa
open Go Go.Am
set_option linter.unusedVariables false
set_option maxRecDepth 4000
theorem MapSI.setNew {s0 s : St} {loc : Nat} {g : Str → Option Int} (h : MapSI s loc g) (m : Moves [] [] [] s0 s) (hl : s0.locs.length ≤ loc) (k : Str) (v : Int) :
  ∃ s', updateS (C.ti Q2) (C.ti Q1) s (.val (.mp loc)) (.val (.str k)) (.val (.int .i64 v)) = some (.no, s') ∧ MapSI s' loc (upd g k v) ∧ Moves [] [] [] s0 s' := by
 obtain ⟨s', e1, h1, m1, -⟩ := h.set k v
 exact ⟨s', e1, h1, m.since (m1 []) (fun i hi => by simp at hi; subst hi; exact .inr hl) (by simp)⟩
theorem Q1O (t : List Place) (hl : t.length < 2^28) (y : Slot) (hy : y.list? = some (t.map Place.enc)) (s0 : St) (loc : Nat) (hloc : s0.locs.length ≤ loc) : ∀ (suf pre : List Place) (g : Str → Option Int) (s : St) (i : Nat), Moves [] [] [] s0 s → MapSI s loc g → pre ++ suf = t → i = pre.length →
  ∃ s', ZI (.val (.mp loc)) y (.val (.int .i64 t.length)) (.val (.int .i64 i)) s = some (.ret (.val (.mp loc)), s') ∧ MapSI s' loc (suf.foldl knownStep g) ∧ Grew s0 s'
 | [], pre, g, s, i, hm, hs, h, hi => by
   subst hi
   rw [Q3k]; simp only [go_sem, Qa (by simpa using h)]
   exact ⟨s, rfl, hs, hm.toGrew⟩
 | p :: suf, pre, g, s, i, hm, hs, h, hi => by
   subst hi
   obtain ⟨f1, f2, f3⟩ := Q9 hy h (by omega) (Place.cells_len p) (by decide)
   rw [Q3k]
   cases hg : g p.data with
   | none =>
     obtain ⟨s1, e1, h1, m1⟩ := hs.setNew hm hloc p.data p.vars
     obtain ⟨s2, e2, h2, m2⟩ := Q1O t hl y hy s0 loc hloc suf (pre ++ [p]) (upd g p.data p.vars) s1 (pre.length + 1) m1 h1 (by simpa using h) (by simp)
     have g1 := hs.get2 p.data
     rw [hg] at g1
     simp only [go_sem, Nat.reduceAdd, Nat.reduceLeDiff, f1, f2, f3, Place.cells_eq, List.foldl_cons, knownStep, hg] at e2 ⊢
     simp only [go_sem, g1, e1, Option.getD_none, Option.isSome_none, Bool.not_false]
     exact ⟨s2, e2, h2, m2⟩
   | some n =>
     obtain ⟨s2, e2, h2, m2⟩ := Q1O t hl y hy s0 loc hloc suf (pre ++ [p]) g s (pre.length + 1) hm hs (by simpa using h) (by simp)
     have g1 := hs.get2 p.data
     rw [hg] at g1
     simp only [go_sem, Nat.reduceAdd, Nat.reduceLeDiff, f1, f2, f3, Place.cells_eq, List.foldl_cons, knownStep, hg] at e2 ⊢
     simp only [go_sem, g1, Option.getD_some, Option.isSome_some, Bool.not_true]
     exact ⟨s2, e2, h2, m2⟩
theorem Q7X (t : List Place) (hl : t.length < 2^28) (v : AV) (hv : (Slot.val v).list? = some (t.map Place.enc)) (s : St) :
  ∃ s', cw (.f Q1y) [v] s = some (.ret (.val (.mp s.locs.length)), s') ∧ MapSI s' s.locs.length (knownD t) ∧ Grew s s' := by
 have m0 : Moves [] [] [] s (s.addLoc (.map [] 0)) := (Moves.refl _ _ s).addLoc _
 obtain ⟨s1, e1, h1, m1⟩ := (MapSI.new s).setNew m0 (Nat.le_refl _) sInt (-1)
 obtain ⟨s2, e2, h2, m2⟩ := h1.setNew m1 (Nat.le_refl _) sBool (-1)
 obtain ⟨s3, e3, h3, m3⟩ := h2.setNew m2 (Nat.le_refl _) sUnit (-1)
 obtain ⟨s4, e4, h4, m4⟩ := h3.setNew m3 (Nat.le_refl _) sExn (-1)
 obtain ⟨s5, e5, h5, m5⟩ := h4.setNew m4 (Nat.le_refl _) sRef (-1)
 obtain ⟨s6, e6, h6, m6⟩ := h5.setNew m5 (Nat.le_refl _) sArrow (-1)
 obtain ⟨s7, e7, h7, m7⟩ := h6.setNew m6 (Nat.le_refl _) sStar (-1)
 obtain ⟨s8, e8, h8, m8⟩ := Q1O t hl (.val v) hv s s.locs.length (Nat.le_refl _) t [] known0 s7 0 m7 h7 rfl rfl
 refine ⟨s8, ?_, h8, m8⟩
 rw [show ((0 : Nat) : Int) = 0 from rfl] at e8
 simp only [sInt, sBool, sUnit, sExn, sRef, sArrow, sStar] at e1 e2 e3 e4 e5 e6 e7
 rw [Qar]
 simp only [go_sem, Int.reduceNeg, e1, e2, e3, e4, e5, e6, e7, hv, List.length_map] at e8 ⊢
 exact e8
def wrFn (params : Int) (mloc me : Nat) : AV := .fn Q00 [.cp [.int .i64 params], .cp [.mp mloc], .vp me 0]
structure WrAt (s : St) (g : Str → Option Int) (params : Int) (mloc me : Nat) : Prop where
 map : MapSI s mloc g
 fn : s.locs[me]? = some (.var [.val (wrFn params mloc me)])
theorem WrAt.move {s s' : St} {g : Str → Option Int} {params : Int} {mloc me : Nat} (h : WrAt s g params mloc me) (k : Grew s s') : WrAt s' g params mloc me := ⟨h.map.move k, k.loc h.fn⟩
def WrOK (g : Str → Option Int) (params : Int) (mloc me : Nat) (t : Ty) : Prop := ∀ s, WrAt s g params mloc me → cw (.f Q00) [t.enc, .cp [.int .i64 params], .cp [.mp mloc], .vp me 0] s = some (.ret (.val (.tup [.int .i64 (wrongD g params t).1, .str (wrongD g params t).2])), s)
theorem Q3M (g : Str → Option Int) (params : Int) (mloc me : Nat) (l : List Ty) (hl : l.length < 2^28) (y : Slot) (hy : y.list? = some (l.map Ty.enc)) (s : St) (hs : WrAt s g params mloc me) : ∀ (suf pre : List Ty) (i : Nat), pre ++ suf = l → i = pre.length → (∀ t ∈ suf, WrOK g params mloc me t) →
  ZO (.val (.vp me 0)) y (.val (.int .i64 l.length)) (.val (.int .i64 i)) s = some (.ret (.val (.tup [.int .i64 (wrongsD g params suf).1, .str (wrongsD g params suf).2])), s)
 | [], pre, i, h, hi, H => by
   subst hi
   rw [Q2q]; simp only [go_sem, Qa (by simpa using h), wrongsD]
 | t :: suf, pre, i, h, hi, H => by
   subst hi
   obtain ⟨f1, f2, f3⟩ := Q9 hy h (by omega) (Ty.cells_len t) (by decide)
   have e1 := H t List.mem_cons_self s hs
   have ih := Q3M g params mloc me l hl y hy s hs suf (pre ++ [t]) (pre.length + 1) (by simpa using h) (by simp) (fun w hw => H w (List.mem_cons_of_mem _ hw))
   have f4 : ∀ t : TI, ldV t false s (.val (.vp me 0)) = ofSlots t (([.val (wrFn params mloc me)] : List Slot).take t.size) := fun t => Q5S hs.fn
   rw [Q2q]
   simp only [go_sem, Nat.reduceAdd, Nat.reduceLeDiff, ne_eq, f1, f2, f3, f4, wrFn, wrongsD, e1] at ih ⊢
   by_cases hn : (wrongD g params t).1 = 0
   ·simp only [go_sem, hn, ih, not_true_eq_false, if_false]
   ·simp only [go_sem, not_false_eq_true, hn, if_true]
theorem Q2K (g : Str → Option Int) (params : Int) (mloc me : Nat) : ∀ (k : Nat) (t : Ty), t.size ≤ k → WideTy t → WrOK g params mloc me t
 | 0, .mk _ _ _ _ _, h, _ => by simp only [Ty.size] at h; omega
 | k + 1, .mk kd n nm l nl, h, h' => fun s hs => by
   simp only [Ty.size] at h
   have hl := h'.len
   have e1 := Q3M g params mloc me l hl (.val (encS nl (l.map Ty.enc))) (Qk _ _) s hs l [] 0 rfl rfl (fun t ht => by
    have := Ty.mem_sizes ht
    exact Q2K g params mloc me k t (by omega) (h'.arg ht))
   rw [show ((0 : Nat) : Int) = 0 from rfl] at e1
   have g1 := hs.map.get2 nm
   rw [Q7Y]
   by_cases hk : kd = 1
   ·subst hk
    simp only [go_sem, Nat.reduceAdd, Nat.reduceLeDiff, ne_eq, Ty.enc, wrongD, if_true]
    by_cases hn : n ≥ params
    ·simp only [go_sem, hn, if_true, decide_true]
    ·simp only [go_sem, hn, if_false, decide_false]
   ·cases hg : g nm with
    | none =>
      rw [hg] at g1
      simp only [go_sem, Nat.reduceAdd, Nat.reduceLeDiff, Ty.enc, wrongD, hk, hg, g1, if_false, decide_false, Option.isSome_none, Bool.not_false]
    | some m =>
      rw [hg] at g1
      simp only [go_sem, Nat.reduceAdd, Nat.reduceLeDiff, ne_eq, Ty.enc, wrongD, hk, hg, g1, if_false, decide_false, Option.isSome_some, Bool.not_true, Option.getD_some, List.length_map]
      by_cases h1 : m ≥ 0
      ·by_cases h2 : m = (l.length : Int)
       ·simp only [go_sem, not_false_eq_true, h1, h2, e1]
        simp
       ·simp only [go_sem, not_false_eq_true, h1, h2, e1]
        simp
      ·simp only [go_sem, h1, e1]
       simp
theorem Q7Z (g : Str → Option Int) (params : Int) (t : Ty) (hw : WideTy t) (mloc : Nat) (s : St) (hs : MapSI s mloc g) : ∃ s', cw (.f Q37) [.mp mloc, .int .i64 params, t.enc] s = some (.ret (.val (.tup [.int .i64 (wrongD g params t).1, .str (wrongD g params t).2])), s') ∧ Grew s s' := by
 have hg : Grew s (s.addLoc (.var [.val (wrFn params mloc s.locs.length)])) := (Grew.refl s).addLoc _
 have hf : (s.addLoc (.var [.val (wrFn params mloc s.locs.length)])).locs[s.locs.length]? = some (.var [.val (wrFn params mloc s.locs.length)]) := Q3F _ _
 have e1 := Q2K g params mloc s.locs.length _ t (Nat.le_refl _) hw _ ⟨hs.move hg, hf⟩
 have f4 : ∀ t : TI, ldV t false (s.addLoc (.var [.val (wrFn params mloc s.locs.length)])) (.val (.vp s.locs.length 0)) = ofSlots t (([.val (wrFn params mloc s.locs.length)] : List Slot).take t.size) := fun t => Q5S hf
 refine ⟨_, ?_, hg⟩
 rw [Qat]
 simp only [Ty.enc, wrFn] at e1 f4
 simp only [go_sem, Nat.reduceAdd, Nat.reduceLeDiff, Ty.enc, f4, e1, wrFn]
end Go.Proofs.Ytoahliipbclneaa
namespace Go.Proofs.Ytoahliipbclneaa
open Go Go.Am
set_option linter.unusedVariables false
structure ScI (σ : Type) where
 con : Str → Int → Int → σ → σ
 free : Str → Int → σ → σ
 fail : Int → Int → Str → σ → σ
 stop : σ → Bool
def addS (out : List Str) (s : Str) : List Str := if s ∈ out then out else out ++ [s]
def varsCases : List Case → List Str
 | [] => []
 | .mk p _ :: l => varsPat p ++ varsCases l
def namesOf (k : Int) (c : List Case) (f : List Fun) : List Str := (bif decide (k = 1) then varsCases c else bif decide (k = 2) then f.map Fun.name else []).foldl addS []
section
variable {σ : Type} (I : ScI σ)
mutual
def scPat : Pat → List Str × σ → List Str × σ
 | .mk k a nm _ l _, st => scPats l (bif decide (k = 2) || decide (k = 6) then (st.1 ++ [nm], if nm ∈ st.1 then I.fail 9 a nm st.2 else st.2) else bif decide (k = 4) then (st.1, I.con nm a l.length st.2) else st)
def scPats : List Pat → List Str × σ → List Str × σ
 | [], st => st
 | p :: l, st => scPats l (scPat p st)
end
def scVar (k a : Int) (nm : Str) (kids : Nat) (bd : List Str) (st : σ) : σ :=
 bif decide (k = 2) then (if nm ∈ bd then st else I.free nm a st) else bif decide (k = 3) then I.con nm a kids st else st
mutual
def scCase : Case → List Str → σ → σ
 | .mk p e, bd, st => scExp e (varsPat p ++ bd) (scPat I p ([], st)).2
def scExp : Exp → List Str → σ → σ
 | .mk k a nm _ l _ c _ d _, bd, st => bif I.stop st then st else
   scCases c (scDecs d bd (scVar I k a nm l.length bd st)).1 (scExps l (scDecs d bd (scVar I k a nm l.length bd st)).1 (scDecs d bd (scVar I k a nm l.length bd st)).2)
def scExps : List Exp → List Str → σ → σ
 | [], _, st => st
 | e :: l, bd, st => scExps l bd (scExp e bd st)
def scCases : List Case → List Str → σ → σ
 | [], _, st => st
 | c :: l, bd, st => scCases l bd (scCase c bd st)
def scDecs : List Dec → List Str → σ → List Str × σ
 | [], bd, st => (bd, st)
 | d :: r, bd, st => scDecs r (scDec d bd st).1 (scDec d bd st).2
def scDec : Dec → List Str → σ → List Str × σ
 | .mk k _ _ _ _ _ c _ f _, bd, st => bif decide (k = 1) then (namesOf k c f ++ bd, scVals c bd st) else bif decide (k = 2) then (namesOf k c f ++ bd, scFuns f (namesOf k c f ++ bd) [] st) else (bd, st)
def scVals : List Case → List Str → σ → σ
 | [], _, st => st
 | .mk p e :: r, bd, st => scVals r bd (scExp e bd (scPat I p ([], st)).2)
def scFuns : List Fun → List Str → List Str → σ → σ
 | [], _, _, st => st
 | .mk nm a c :: r, bd, had, st => scFuns r bd (had ++ [nm]) (scCase c bd (if nm ∈ had then I.fail 9 a nm st else st))
end
end
end Go.Proofs.Ytoahliipbclneaa
namespace Go.Proofs.Ytoahliipbclneaa
open Go Go.Am
set_option linter.unusedVariables false
set_option maxRecDepth 4000
theorem _root_.Go.Am.Moves.next {A B h0 h h' : List Nat} {s0 s s' : St} (m : Moves A h0 h s0 s) (c : Moves B h h' s s') (hB : ∀ i ∈ B, i ∈ A ∨ s0.locs.length ≤ i) : Moves A h0 h' s0 s' where
 tl := Nat.le_trans m.tl c.tl
 tk := fun k hk hn => by
  have := m.tl
  rw [c.tk k (by omega) (fun hm => (m.new k hm).elim hn (fun h => by omega)), m.tk k hk hn]
 new := fun k hk => (c.new k hk).elim (m.new k) (fun h => .inr (Nat.le_trans m.tl h))
 ll := Nat.le_trans m.ll c.ll
 lk := fun i hi hn => by
  have := m.ll
  rw [c.lk i (by omega) (fun hm => (hB i hm).elim hn (fun h => by omega)), m.lk i hi hn]
def KN (s : St) (loc : Nat) (bd : List Str) : Prop := ∃ g, MapSI s loc g ∧ ∀ k, (g k).getD 0 = (bd.count k : Int)
theorem KN.new (s : St) : KN (s.addLoc (.map [] 0)) s.locs.length [] := ⟨_, MapSI.new s, fun k => by simp⟩
theorem KN.lt {s : St} {loc : Nat} {bd : List Str} (h : KN s loc bd) : loc < s.locs.length := by obtain ⟨g, h1, -⟩ := h; exact h1.lt
theorem KN.at {s s' : St} {loc : Nat} {bd : List Str} (h : KN s loc bd) (e : s'.locs[loc]? = s.locs[loc]?) : KN s' loc bd := by
 obtain ⟨g, ⟨es, c, D, h1, h2⟩, h3⟩ := h
 exact ⟨g, ⟨es, c, D, by rw [e]; exact h1, h2⟩, h3⟩
theorem KN.moves {A h1 h2 : List Nat} {s s' : St} {loc : Nat} {bd : List Str} (h : KN s loc bd) (m : Moves A h1 h2 s s') (hn : loc ∉ A) : KN s' loc bd := h.at (m.lk loc h.lt hn)
theorem KN.get {s : St} {loc : Nat} {bd : List Str} (h : KN s loc bd) (k : Str) : lookupS (C.ti Q2) (C.ti Q1) s (.val (.mp loc)) (.val (.str k)) false = some (.val (.int .i64 (bd.count k : Nat))) := by
 obtain ⟨g, h1, h2⟩ := h
 rw [h1.get k, h2]
theorem KN.set {s : St} {loc : Nat} {bd bd' : List Str} (h : KN s loc bd) (k : Str) (n : Int) (hn : n = (bd'.count k : Nat)) (ho : ∀ k', k' ≠ k → bd'.count k' = bd.count k') :
  ∃ s', updateS (C.ti Q2) (C.ti Q1) s (.val (.mp loc)) (.val (.str k)) (.val (.int .i64 n)) = some (.no, s') ∧ KN s' loc bd' ∧ (∀ hs, Moves [loc] hs hs s s') ∧ s'.toks = s.toks ∧ s'.locs.length = s.locs.length := by
 obtain ⟨g, h1, h2⟩ := h
 obtain ⟨s', e1, h3, h4, h5, h6⟩ := h1.set k n
 refine ⟨s', e1, ⟨_, h3, fun k' => ?_⟩, h4, h5, h6⟩
 by_cases e : k' = k
 ·subst e; rw [QfQ]; exact hn
 ·rw [QeM _ _ e, h2, ho k' e]
theorem Q3C {n : Nat} (h : n < 2^62) : IntKind.i64.wrap ((n : Int) + 1) = ((n + 1 : Nat) : Int) := by rw [wrap64 (by omega) (by omega)]; rfl
theorem QfV {n : Nat} (h : n < 2^62) : IntKind.i64.wrap (((n + 1 : Nat) : Int) - 1) = (n : Int) := by rw [wrap64 (by omega) (by omega)]; omega
theorem KN.inc {s : St} {loc : Nat} {bd : List Str} (h : KN s loc bd) (k : Str) (hl : bd.length < 2^62) :
  ∃ s', updateS (C.ti Q2) (C.ti Q1) s (.val (.mp loc)) (.val (.str k)) (.val (.int .i64 (IntKind.i64.wrap ((bd.count k : Nat) + 1)))) = some (.no, s') ∧ KN s' loc (bd ++ [k]) ∧ (∀ hs, Moves [loc] hs hs s s') ∧ s'.toks = s.toks ∧ s'.locs.length = s.locs.length := by
 have := List.count_le_length (a := k) (l := bd)
 refine h.set k _ ?_ fun k' hk => ?_
 ·rw [Q3C (by omega)]; simp
 ·have : [k].count k' = 0 := List.count_eq_zero.2 (by simpa using hk)
  rw [List.count_append, this]; rfl
section
variable {σ : Type}
structure RW (R : Nat → σ → List Nat → St → Prop) (kl : Nat) (n : Nat) (st : σ) (bd : List Str) (h : List Nat) (s : St) : Prop where
 r : R n st h s
 kn : KN s kl bd
 few : bd.length + n < 2^40
variable {I : ScI σ} {wl kl : Nat} {A : List Nat} {cf : FuncId} {cc : List AV} {ff : FuncId} {fc : List AV} {R : Nat → σ → List Nat → St → Prop}
end
end Go.Proofs.Ytoahliipbclneaa
namespace Go.Proofs.Ytoahliipbclneaa
open Go Go.Am
set_option linter.unusedVariables false
set_option maxRecDepth 4000
theorem Q7f (n : Nat) : ∀ t ∈ varsTy n, WideTy t := by
 intro t ht
 obtain ⟨i, _, rfl⟩ := List.mem_map.1 ht
 exact Qah _
theorem Q4p (d : Dec) (hp : d.params < 2^28) (s0 : St) : ∀ (k i : Nat) (x : Slot) (s : St), AccH Q4 s0.toks.length [] s x ((varsTy i).map Ty.enc) → Moves [] [] [] s0 s → i + k = d.params.toNat →
  Ret (Q08 (d.cells.map .val) (Ty.zero.cells.map .val) x (.val (.int .i64 d.params)) (.val (.int .i64 i)) s) s0 (.tup [(ofTy d.name (varsTy d.params.toNat)).enc, .int .i64 d.params])
 | 0, i, x, s, a, m, h => by
   have hi : i = d.params.toNat := by omega
   have hd : decide ((i : Int) < d.params) = false := by simp only [decide_eq_false_iff_not]; omega
   rw [Q3L]
   have hav := a.av
   obtain ⟨s1, e1, g1⟩ := Q32 d.name (varsTy i) (encS true ((varsTy i).map Ty.enc)) (Qk _ _) (by simp only [varsTy, List.length_map, List.length_range]; omega) (Q7f i) s
   subst hi
   simp only [Ty.enc, Ty.cells_eq] at e1
   simp only [go_sem, Nat.reduceAdd, Nat.reduceLeDiff, hd, Dec.cells_eq, List.map_cons, List.map_nil, ZB hav, e1, Ty.enc, Ty.cells_eq]
   exact ⟨s1, rfl, m.toGrew.trans g1⟩
 | k + 1, i, x, s, a, m, h => by
   have hd : decide ((i : Int) < d.params) = true := by simp only [decide_eq_true_eq]; omega
   obtain ⟨x2, s2, e2, a2, m2, -, -, -⟩ := tyAcc (B := [tvar (i : Int)]) a m (by simp) (y := .full [(tvar (i : Int)).enc]) rfl (by simp only [varsTy, List.length_map, List.length_range, List.length_singleton]; omega)
   have hv : varsTy i ++ [tvar (i : Int)] = varsTy (i + 1) := by simp [varsTy, List.range_succ]
   rw [hv] at a2
   have ih := Q4p d hp s0 k (i + 1) x2 s2 a2 m2 (by omega)
   rw [Q3L]
   simp only [tvar, Ty.enc, Ty.cells_mk, List.map_nil, Q4L] at e2
   simp only [go_sem, Nat.reduceAdd, Nat.reduceLeDiff, hd, e2, Q3C (show i < 2^62 by omega)]
   exact ih
theorem Q9b (d : Dec) (hp : d.params < 2^28) (s : St) : Ret (cw (.f Q16) [d.enc] s) s (.tup [(headD d).1.enc, .int .i64 (headD d).2]) := by
 rw [Q3j]
 by_cases h4 : d.kind = 4
 ·obtain ⟨s1, e1, g1⟩ := Q32 sExn [] .nils rfl (by simp) (by simp) s
  refine ⟨s1, ?_, g1⟩
  simp only [sExn, Ty.enc, Ty.cells_eq] at e1
  simp only [go_sem, Nat.reduceAdd, Nat.reduceLeDiff, Dec.enc, Dec.cells_eq, List.map_cons, List.map_nil, h4, decide_true, sExn, e1, headD, cond_true, Ty.enc, Ty.cells_eq]
 ·have e1 := Q4p d hp s d.params.toNat 0 (.val .nils) s (AccH.nil _ _ _ _) (.refl _ _ _) (by omega)
  rw [show ((0 : Nat) : Int) = 0 from rfl] at e1
  have e0 : cw (.f Q16) [d.enc] s = Q08 (d.cells.map .val) (Ty.zero.cells.map .val) (.val .nils) (.val (.int .i64 d.params)) (.val (.int .i64 0)) s := by
   rw [Q3j]
   simp only [go_sem, Nat.reduceAdd, Dec.enc, Dec.cells_eq, List.map_cons, List.map_nil, decide_eq_false h4, Ty.zero]
  rw [← Q3j, e0]
  simpa only [headD, decide_eq_false h4, cond_false] using e1
theorem AccR.kset {e : TypeId} {s0 s s' : St} {x : Slot} {l : List AV} {ml : Nat} (a : AccR e s0 s x l) (m : ∀ hs, Moves [ml] hs hs s s') (t : s'.toks = s.toks) (h : s0.locs.length ≤ ml) : AccR e s0 s' x l :=
 a.relay t ((Moves.grew [] [] a.grew).since (m []) (fun i hi => by simp at hi; subst hi; exact .inr h) (by simp)).toGrew.1
def RetT (r : Res) (s0 : St) (o : List Place × TBad) : Prop := ∃ s' w, r = some (.ret (.val (.tup [w, o.2.enc])), s') ∧ (Slot.val w).list? = some (o.1.map Place.enc) ∧ Grew s0 s'
theorem QgJ {a b : Ty} (ha : WideTy a) (hb : WideTy b) : WideTy (fnTy a b) := by
 unfold fnTy ofTy
 refine Q36 (by simp) fun t ht => ?_
 simp only [List.map_cons, List.map_nil, List.mem_cons, List.not_mem_nil, or_false] at ht
 rcases ht with rfl | rfl
 ·exact Q3A _ ha
 ·exact Q3A _ hb
def zb : List Slot := [.val (.int .i64 0), .val (.int .i64 0), .val (.str [])]
theorem Q7W (b : TBad) (hb : b.kind ≠ 0) (x6 : Slot) (s : St) : Q0z zb x6 (b.cells.map .val) s = some (.ret (.val (.tup [.nils, b.enc])), s) := by
 rw [Q4k]
 simp only [go_sem, Nat.reduceAdd, Nat.reduceLeDiff, TBad.cells, List.map_cons, List.map_nil, zb, decide_eq_false hb, Bool.not_false]
 rfl
theorem Q98 (x6 : Slot) (v : AV) (hv : x6.av = some v) (s : St) : Q0z zb x6 zb s = some (.ret (.val (.tup [v, TBad.zero.enc])), s) := by
 rw [Q4k]
 simp only [go_sem, Nat.reduceAdd, Nat.reduceLeDiff, TBad.cells, TBad.zero, zb, Q5y hv]
 rfl
section
variable (d : Dec) (g : Str → Option Int) (res : Ty) (vars : Int) (data : Str) (of_ : Int) (tl ml : Nat) (s0 : St)
noncomputable abbrev addL1 (x : Slot) (tag : Int) (i : Nat) (s : St) : Res := Q19 (d.cells.map .val) zb x (.val (.mp tl)) (.val (.mp ml)) (.val (.int .i64 tag)) (.val (.int .i64 of_)) (.val (.str data)) (res.cells.map .val) (.val (.int .i64 vars)) zb (.val (encS d.nb (d.cons.map Con.enc))) (.val (.int .i64 d.cons.length)) (.val (.int .i64 i)) s
noncomputable abbrev addJ1 (c : Con) (e : Int) (nm : Str) (x : Slot) (tag : Int) (i : Nat) (s : St) : Res := Zs (d.cells.map .val) zb x (.val (.mp tl)) (.val (.mp ml)) (.val (.int .i64 tag)) (.val (.int .i64 of_)) (.val (.str data)) (res.cells.map .val) (.val (.int .i64 vars)) zb (c.cells.map .val) (.val (.int .i64 e)) (.val (.str nm)) (.val (encS d.nb (d.cons.map Con.enc))) (.val (.int .i64 d.cons.length)) (.val (.int .i64 i)) s
structure AddAt (s : St) (x : Slot) (met : List Str) (out : List Place) : Prop where
 acc : AccR Q5 s0 s x (out.map Place.enc)
 map : MapSI s tl g
 kn : KN s ml met
variable {g tl ml s0}
theorem MapSI.at {s s' : St} {loc : Nat} {g : Str → Option Int} (h : MapSI s loc g) (e : s'.locs = s.locs) : MapSI s' loc g := by
 obtain ⟨es, c, D, h1, h2⟩ := h
 exact ⟨es, c, D, by rw [e]; exact h1, h2⟩
theorem AddAt.move {s s' : St} {x : Slot} {met : List Str} {out : List Place} (h : AddAt g tl ml s0 s x met out) (k : Grew s s') : AddAt g tl ml s0 s' x met out := ⟨h.acc.move k, h.map.move k, h.kn.moves (Moves.grew [] [] k) (by simp)⟩
theorem Q7V (c : Con) (e : Int) (he : e ≠ 0) (nm : Str) (x : Slot) (tag : Int) (i : Nat) (s : St) : addJ1 d res vars data of_ tl ml c e nm x tag i s = some (.ret (.val (.tup [.nils, (⟨e, c.at_, nm⟩ : TBad).enc])), s) := by
 have e1 := Q7W ⟨e, c.at_, nm⟩ he x s
 simp only [TBad.cells, List.map_cons, List.map_nil] at e1
 rw [← e1, addJ1, Q2a]
 simp only [go_sem, Nat.reduceAdd, Nat.reduceLeDiff, Con.cells, Ty.cells_eq, TBad.cells, List.map_cons, List.map_nil, zb, decide_eq_false he, Bool.not_false]
theorem Q97 (hr : WideTy res) (hne : ml ≠ tl) (h1 : s0.locs.length ≤ tl) (h2 : s0.locs.length ≤ ml) (c : Con) (hc : WideTy c.arg) (nm : Str) (x : Slot) (tag : Int) (i : Nat) (s : St) (met : List Str) (out : List Place) (a : AddAt g tl ml s0 s x met out) (ho : out.length < 2^28) (hm : met.length < 2^40) (ht0 : 0 ≤ tag) (ht : tag < 2^40) (hi : i < 2^40) :
  ∃ x' s', addJ1 d res vars data of_ tl ml c 0 nm x tag i s = addL1 d res vars data of_ tl ml x' (tag + 1) (i + 1) s' ∧ AddAt g tl ml s0 s' x' (met ++ [c.name]) (out ++ [conPlace res vars data tag of_ c]) := by
 obtain ⟨s1, e1, k1, m1, t1, -⟩ := a.kn.inc c.name (by omega)
 have a1 : AddAt g tl ml s0 s1 x (met ++ [c.name]) out := ⟨AccR.kset a.acc m1 t1 h2, a.map.moves (m1 []) (by simpa using Ne.symm hne), k1⟩
 obtain ⟨s2, e2, g2⟩ := Qcl res [] true s1 hr (by simp) (by simp)
 have a2 := a1.move g2
 have w1 : IntKind.i64.wrap (tag + 1) = tag + 1 := wrap64 (by omega) (by omega)
 have w2 := Q3C (show i < 2^62 by omega)
 have gk := a.kn.get c.name
 simp only [List.map_nil, Q4L] at e2
 cases hh : c.has with
 | true =>
   obtain ⟨s3, e3, g3⟩ := Qdt c.arg res s2 hc hr
   have a3 := a2.move g3
   obtain ⟨x', s4, e4, r4⟩ := placeAcc a3.acc (conPlace res vars data tag of_ c) (by omega)
   refine ⟨x', s4, ?_, ⟨r4, ?_, ?_⟩⟩
   ·rw [addJ1, Q2a]
    simp only [Ty.enc, Ty.cells_eq] at e2 e3
    simp only [Place.enc, Place.cells_eq, conPlace, hh, cond_true] at e4
    simp only [go_sem, Nat.reduceAdd, Nat.reduceLeDiff, Con.cells, Ty.cells_eq, List.map_cons, List.map_nil, hh, gk, e1, e2, e3]
    rw [Q4l]
    simp only [go_sem, Nat.reduceAdd, Nat.reduceLeDiff, hh, e4, w1, w2]
    simp only [addL1, Ty.cells_eq, List.map_cons, List.map_nil]
   ·exact a3.map.at (Q1L e4)
   ·exact a3.kn.at (by rw [Q1L e4])
 | false =>
   obtain ⟨x', s4, e4, r4⟩ := placeAcc a2.acc (conPlace res vars data tag of_ c) (by omega)
   refine ⟨x', s4, ?_, ⟨r4, a2.map.at (Q1L e4), a2.kn.at (by rw [Q1L e4])⟩⟩
   rw [addJ1, Q2a]
   simp only [Ty.enc, Ty.cells_eq] at e2
   simp only [Place.enc, Place.cells_eq, conPlace, hh, cond_false] at e4
   simp only [go_sem, Nat.reduceAdd, Nat.reduceLeDiff, Con.cells, Ty.cells_eq, List.map_cons, List.map_nil, hh, gk, e1, e2]
   rw [Q4l]
   simp only [go_sem, Nat.reduceAdd, Nat.reduceLeDiff, hh, e4, w1, w2]
   simp only [addL1, Ty.cells_eq, List.map_cons, List.map_nil]
theorem Q3f (hr : WideTy res) (hne : ml ≠ tl) (h1 : s0.locs.length ≤ tl) (h2 : s0.locs.length ≤ ml) (hl : d.cons.length < 2^26) (hw : ∀ c ∈ d.cons, WideTy c.arg) : ∀ (suf pre : List Con) (met : List Str) (tag : Int) (out : List Place) (x : Slot) (s : St) (i : Nat), pre ++ suf = d.cons → i = pre.length → AddAt g tl ml s0 s x met out → out.length + suf.length < 2^28 → met.length + suf.length < 2^40 → 0 ≤ tag → tag + suf.length < 2^40 →
  RetT (addL1 d res vars data of_ tl ml x tag i s) s0 (consD d.kind g res vars data of_ suf met tag out)
 | [], pre, met, tag, out, x, s, i, hp, hi, a, ho, hm, ht0, ht => by
   subst hi
   obtain ⟨nl, hav⟩ := a.acc.av
   refine ⟨s, _, ?_, Qk nl _, a.acc.grew⟩
   rw [addL1, Zw]; simp only [go_sem, Qa (by simpa using hp), Q98 x _ hav]
   rfl
 | c :: suf, pre, met, tag, out, x, s, i, hp, hi, a, ho, hm, ht0, ht => by
   subst hi
   obtain ⟨f1, f2, f3⟩ := Q9 (x := .val (encS d.nb (d.cons.map Con.enc))) (Qk _ _) hp (by omega) (Con.cells_len c) (by decide)
   have hlt : pre.length < d.cons.length := by rw [← hp]; simp
   have hcm : c ∈ d.cons := by rw [← hp]; simp
   simp only [List.length_cons] at ho hm ht
   have gk := a.kn.get c.name
   have hcnt : decide (((met.count c.name : Nat) : Int) > 0) = decide (c.name ∈ met) := by
    rw [decide_eq_decide]
    constructor
    ·intro h; exact List.count_pos_iff.1 (by omega)
    ·intro h; have := List.count_pos_iff.2 h; omega
   have bad : ∀ e nm s', e ≠ 0 → Grew s0 s' → conBad d.kind g vars tag met c = (e, nm) → addL1 d res vars data of_ tl ml x tag pre.length s = addJ1 d res vars data of_ tl ml c e nm x tag pre.length s' → RetT (addL1 d res vars data of_ tl ml x tag pre.length s) s0 (consD d.kind g res vars data of_ (c :: suf) met tag out) := fun e nm s' he hg hc hq => by
    refine ⟨s', .nils, ?_, ?_, hg⟩
    ·rw [hq, Q7V _ _ _ _ _ _ _ he]
     simp only [consD, hc]; rw [if_pos he]
    ·simp only [consD, hc]; rw [if_pos he]; rfl
   have good : ∀ nm s', AddAt g tl ml s0 s' x met out → (conBad d.kind g vars tag met c).1 = 0 → addL1 d res vars data of_ tl ml x tag pre.length s = addJ1 d res vars data of_ tl ml c 0 nm x tag pre.length s' → RetT (addL1 d res vars data of_ tl ml x tag pre.length s) s0 (consD d.kind g res vars data of_ (c :: suf) met tag out) := fun nm s' ha hc hq => by
    obtain ⟨x', s2, e2, a2⟩ := Q97 d res vars data of_ hr hne h1 h2 c (hw c hcm) nm x tag pre.length s' met out ha (by omega) (by omega) ht0 (by omega) (by omega)
    have ih := Q3f hr hne h1 h2 hl hw suf (pre ++ [c]) (met ++ [c.name]) (tag + 1) (out ++ [conPlace res vars data tag of_ c]) x' s2 (pre.length + 1) (by simpa using hp) (by simp) a2 (by simp only [List.length_append, List.length_cons, List.length_nil]; omega) (by simp only [List.length_append, List.length_cons, List.length_nil]; omega) (by omega) (by omega)
    rw [hq, e2]
    simp only [consD]; rw [if_neg (by simpa using hc)]
    exact ih
   by_cases hmem : c.name ∈ met
   ·refine bad 9 c.name s (by decide) a.acc.grew (by simp only [conBad, hmem, if_true]) ?_
    rw [addL1, Zw]
    simp only [go_sem, Nat.reduceAdd, Nat.reduceLeDiff, addJ1, f1, f2, Con.cells, Ty.cells_eq, List.map_cons, List.map_nil, gk, hcnt, hmem, decide_true]
   ·cases hx : (decide (d.kind = 4) && decide (tag > 1023)) with
    | true =>
      refine bad 19 c.name s (by decide) a.acc.grew (by simp only [conBad, hmem, if_false, hx, cond_true]) ?_
      rw [addL1, Zw]
      simp only [go_sem, Nat.reduceAdd, Nat.reduceLeDiff, addJ1, f1, f2, Con.cells, Ty.cells_eq, Dec.cells_eq, List.map_cons, List.map_nil, gk, hcnt, hmem, decide_false, hx]
    | false =>
      cases hh : c.has with
      | true =>
        obtain ⟨s1, e1, g1⟩ := Q7Z g vars c.arg (hw c hcm) tl s a.map
        have e1' := e1
        simp only [Ty.enc, Ty.cells_eq] at e1'
        by_cases hz : (wrongD g vars c.arg).1 = 0
        ·refine good c.name s1 (a.move g1) (by simp only [conBad, hmem, if_false, hx, cond_false, hh, cond_true, hz, ne_eq, not_true_eq_false, if_false]) ?_
         rw [addL1, Zw]
         simp only [go_sem, Nat.reduceAdd, Nat.reduceLeDiff, addJ1, f1, f2, Con.cells, Ty.cells_eq, Dec.cells_eq, List.map_cons, List.map_nil, gk, hcnt, hmem, decide_false, hx, hh, e1', hz, decide_true, Bool.not_true]
        ·refine bad (wrongD g vars c.arg).1 (wrongD g vars c.arg).2 s1 hz (a.acc.grew.trans g1) (by simp only [conBad, hmem, if_false, hx, cond_false, hh, cond_true, hz, ne_eq, not_false_eq_true, if_true]) ?_
         rw [addL1, Zw]
         simp only [go_sem, Nat.reduceAdd, Nat.reduceLeDiff, addJ1, f1, f2, Con.cells, Ty.cells_eq, Dec.cells_eq, List.map_cons, List.map_nil, gk, hcnt, hmem, decide_false, hx, hh, e1', decide_eq_false hz, Bool.not_false]
      | false =>
        refine good c.name s a (by simp only [conBad, hmem, if_false, hx, cond_false, hh]) ?_
        rw [addL1, Zw]
        simp only [go_sem, Nat.reduceAdd, Nat.reduceLeDiff, addJ1, f1, f2, Con.cells, Ty.cells_eq, Dec.cells_eq, List.map_cons, List.map_nil, gk, hcnt, hmem, decide_false, hx, hh]
end
end Go.Proofs.Ytoahliipbclneaa
namespace Go.Proofs.Ytoahliipbclneaa
open Go Go.Am
set_option linter.unusedVariables false
set_option maxRecDepth 4000
theorem Q4N (d : Dec) (h : d.params < 2^28) : WideTy (headD d).1 := by
 unfold headD
 cases decide (d.kind = 4) with
 | true => exact Q36 (by simp) (by simp)
 | false =>
   refine Q36 (by simp only [List.length_map, varsTy, List.length_range]; omega) fun t ht => ?_
   obtain ⟨u, hu, rfl⟩ := List.mem_map.1 ht
   exact Q3A _ (Q7f _ u hu)
section
variable (d : Dec) (t : List Place) {tl ml : Nat} {s0 : St}
theorem Q3d (g : Str → Option Int) (data : Str) (of_ : Int) (hp : d.params < 2^28) (hne : ml ≠ tl) (h1 : s0.locs.length ≤ tl) (h2 : s0.locs.length ≤ ml) (hl : d.cons.length < 2^26) (hw : ∀ c ∈ d.cons, WideTy c.arg) (met : List Str) (tag : Int) (out : List Place) (x : Slot) (s : St) (a : AddAt g tl ml s0 s x met out) (ho : out.length < 2^27) (hm : met.length < 2^27) (ht0 : 0 ≤ tag) (ht : tag < 2^30) :
  RetT (Q0y (d.cells.map .val) zb x (.val (.mp tl)) (.val (.mp ml)) (.val (.int .i64 tag)) (.val (.int .i64 of_)) (.val (.str data)) s) s0 (consD d.kind g (headD d).1 (headD d).2 data of_ d.cons met tag out) := by
 obtain ⟨s1, e1, g1⟩ := Q9b d hp s
 have e2 := Q3f d (headD d).1 (headD d).2 data of_ (Q4N d hp) hne h1 h2 hl hw d.cons [] met tag out x s1 0 rfl rfl (a.move g1) (by omega) (by omega) ht0 (by omega)
 have e3 : Q0y (d.cells.map .val) zb x (.val (.mp tl)) (.val (.mp ml)) (.val (.int .i64 tag)) (.val (.int .i64 of_)) (.val (.str data)) s = addL1 d (headD d).1 (headD d).2 data of_ tl ml x tag 0 s1 := by
  rw [Q96]
  simp only [Dec.enc, Dec.cells_eq, Ty.enc, Ty.cells_eq] at e1
  simp only [go_sem, Nat.reduceAdd, Nat.reduceLeDiff, addL1, Dec.cells_eq, Ty.cells_eq, List.map_cons, List.map_nil, e1, List.length_map, zb]
  rfl
 rw [e3]
 exact e2
def tagOf (d : Dec) (l : List Place) : Nat := bif decide (d.kind = 4) then exns l else 0
theorem Qb3 (a b : List Place) : exns (a ++ b) = exns a + exns b := by simp [exns]
theorem Qcw (a : List Place) : exns a ≤ a.length := List.length_filter_le _ _
theorem Q3e (hp : d.params < 2^28) (hne : ml ≠ tl) (h1 : s0.locs.length ≤ tl) (h2 : s0.locs.length ≤ ml) (hl : d.cons.length < 2^26) (hw : ∀ c ∈ d.cons, WideTy c.arg) (htl : t.length < 2^26) (y : Slot) (hy : y.list? = some (t.map Place.enc)) (x : Slot) : ∀ (suf pre : List Place) (s : St) (i : Nat), pre ++ suf = t → i = pre.length → AddAt (knownD t) tl ml s0 s x (pre.map Place.name) t →
  RetT (ZV (d.cells.map .val) zb x (.val (.mp tl)) (.val (.mp ml)) (.val (.int .i64 (tagOf d pre : Nat))) (.val (.int .i64 d.cons.length)) y (.val (.int .i64 t.length)) (.val (.int .i64 i)) s) s0 (addD t d)
 | [], pre, s, i, h, hi, a => by
   subst hi
   have hpt : pre = t := by simpa using h
   subst hpt
   have hx := Qcw pre
   rw [Q4m]
   by_cases h3 : d.kind = 3
   ·have hk4 : d.kind ≠ 4 := by omega
    have gk := a.map.get2 d.name
    cases hg : knownD pre d.name with
    | some v =>
      rw [hg] at gk
      refine ⟨s, .nils, ?_, ?_, a.acc.grew⟩
      ·simp only [go_sem, Int.reduceEq, Nat.reduceAdd, Nat.reduceLeDiff, Qa rfl, Dec.cells_eq, List.map_cons, List.map_nil, h3, decide_true, gk, Option.getD_some, Option.isSome_some, zb, addD, cond_true, hg, TBad.enc, TBad.cells]
      ·simp only [addD, h3, decide_true, cond_true, hg, Option.isSome_some]; rfl
    | none =>
      rw [hg] at gk
      obtain ⟨s1, e1, h4, m1, t1, l1⟩ := a.map.set d.name d.params
      have a1 : AddAt (upd (knownD pre) d.name d.params) tl ml s0 s1 x (pre.map Place.name) pre := ⟨AccR.kset a.acc m1 t1 h1, h4, a.kn.moves (m1 []) (by simpa using hne)⟩
      have e2 := Q3d d (upd (knownD pre) d.name d.params) d.name d.cons.length hp hne h1 h2 hl hw (pre.map Place.name) 0 pre x s1 a1 (by omega) (by rw [List.length_map]; omega) (by omega) (by omega)
      have : addD pre d = consD d.kind (upd (knownD pre) d.name d.params) (headD d).1 (headD d).2 d.name d.cons.length d.cons (pre.map Place.name) 0 pre := by
       simp only [addD, h3, decide_true, cond_true, hg, Option.isSome_none, cond_false]
      rw [this]
      simp only [Dec.cells_eq, List.map_cons, List.map_nil] at e2
      simp only [go_sem, Int.reduceAdd, Int.reduceEq, Nat.reduceAdd, Nat.reduceLeDiff, Qa rfl, Dec.cells_eq, List.map_cons, List.map_nil, h3, decide_true, gk, Option.getD_none, Option.isSome_none, e1, tagOf, Int.reduceEq, decide_false, cond_false, Int.natCast_zero]
      simp only [h3] at e2
      exact e2
   ·by_cases h4 : d.kind = 4
    ·have e2 := Q3d d (knownD pre) sExn 0 hp hne h1 h2 hl hw (pre.map Place.name) (exns pre : Nat) pre x s a (by omega) (by rw [List.length_map]; omega) (by omega) (by omega)
     have : addD pre d = consD d.kind (knownD pre) (headD d).1 (headD d).2 sExn 0 d.cons (pre.map Place.name) (exns pre : Nat) pre := by
      simp only [addD, h4, Int.reduceEq, decide_false, decide_true, cond_true, cond_false]
     rw [this]
     simp only [Dec.cells_eq, List.map_cons, List.map_nil] at e2
     simp only [h4, sExn] at e2
     simp only [go_sem, Int.reduceEq, Nat.reduceAdd, Nat.reduceLeDiff, Qa rfl, Dec.cells_eq, List.map_cons, List.map_nil, h4, Int.reduceEq, decide_false, decide_true, tagOf, cond_true, sExn]
     exact e2
    ·obtain ⟨nl, hav⟩ := a.acc.av
     refine ⟨s, encS nl (pre.map Place.enc), ?_, ?_, a.acc.grew⟩
     rotate_left
     ·simp only [addD, decide_eq_false h3, decide_eq_false h4, cond_false]; exact Qk nl _
     ·simp only [go_sem, Nat.reduceAdd, Nat.reduceLeDiff, Qa rfl, Dec.cells_eq, List.map_cons, List.map_nil, decide_eq_false h3, decide_eq_false h4, zb, Q5y hav, addD, cond_false, TBad.zero]
      rfl
 | p :: suf, pre, s, i, h, hi, a => by
   subst hi
   obtain ⟨f1, f2, f3⟩ := Q9 hy h (by omega) (Place.cells_len p) (by decide)
   have hlt : pre.length < t.length := by rw [← h]; simp
   have hx := Qcw pre
   obtain ⟨s1, e1, k1, m1, t1, -⟩ := a.kn.inc p.name (by rw [List.length_map]; omega)
   have a1 : AddAt (knownD t) tl ml s0 s1 x ((pre ++ [p]).map Place.name) t := ⟨AccR.kset a.acc m1 t1 h2, a.map.moves (m1 []) (by simpa using Ne.symm hne), by simpa using k1⟩
   have ih := Q3e hp hne h1 h2 hl hw htl y hy x suf (pre ++ [p]) s1 (pre.length + 1) (by simpa using h) (by simp) a1
   have gk := a.kn.get p.name
   have hT : IntKind.i64.wrap ((exns pre : Nat) + 1) = ((exns pre + 1 : Nat) : Int) := Q3C (by omega)
   rw [Q4m]
   by_cases h4 : d.kind = 4
   ·by_cases hd : p.data = sExn
    ·have : tagOf d (pre ++ [p]) = exns pre + 1 := by simp [tagOf, h4, Qb3, exns, hd]
     rw [this] at ih
     have e0 : tagOf d pre = exns pre := by simp [tagOf, h4]
     rw [e0]
     simp only [Dec.cells_eq, List.map_cons, List.map_nil, h4] at ih
     simp only [sExn] at hd
     simp only [go_sem, Int.reduceEq, Nat.reduceAdd, Nat.reduceLeDiff, f1, f2, f3, Place.cells_eq, Dec.cells_eq, List.map_cons, List.map_nil, gk, e1, h4, decide_true, hd, hT]
     exact ih
    ·have : tagOf d (pre ++ [p]) = exns pre := by simp [tagOf, h4, Qb3, exns, hd]
     rw [this] at ih
     have e0 : tagOf d pre = exns pre := by simp [tagOf, h4]
     rw [e0]
     simp only [Dec.cells_eq, List.map_cons, List.map_nil, h4] at ih
     simp only [sExn] at hd
     simp only [go_sem, Int.reduceEq, Nat.reduceAdd, Nat.reduceLeDiff, f1, f2, f3, Place.cells_eq, Dec.cells_eq, List.map_cons, List.map_nil, gk, e1, h4, decide_true, decide_eq_false hd]
     exact ih
   ·have : tagOf d (pre ++ [p]) = tagOf d pre := by simp [tagOf, h4]
    rw [this] at ih
    simp only [Dec.cells_eq, List.map_cons, List.map_nil] at ih
    simp only [go_sem, Nat.reduceAdd, Nat.reduceLeDiff, f1, f2, f3, Place.cells_eq, Dec.cells_eq, List.map_cons, List.map_nil, gk, e1, decide_eq_false h4]
    exact ih
end
theorem Q58 (t : List Place) (d : Dec) (htl : t.length < 2^26) (hwt : ∀ p ∈ t, WideTy p.ty) (hp : d.params < 2^28) (hl : d.cons.length < 2^26) (hw : ∀ c ∈ d.cons, WideTy c.arg) (v : AV) (hv : (Slot.val v).list? = some (t.map Place.enc)) (s : St) : RetT (cw (.f QV) [v, d.enc] s) s (addD t d) := by
 obtain ⟨x, s1, e1, a1⟩ := Q7r t (by omega) hwt v hv s
 obtain ⟨s2, e2, h2, g2⟩ := Q7X t (by omega) v hv s1
 have g3 : Grew s2 (s2.addLoc (.map [] 0)) := (Grew.refl _).addLoc _
 have e3 := Q3e d t (tl := s1.locs.length) (ml := s2.locs.length) (s0 := s) hp (by have := h2.lt; omega) a1.grew.locsLe (Nat.le_trans a1.grew.locsLe g2.locsLe) hl hw htl (.val v) hv x t [] (s2.addLoc (.map [] 0)) 0 rfl rfl ⟨(a1.move g2).move g3, h2.move g3, KN.new s2⟩
 have ht : tagOf d [] = 0 := by unfold tagOf; cases decide (d.kind = 4) <;> rfl
 rw [ht, show ((0 : Nat) : Int) = 0 from rfl] at e3
 have e4 : cw (.f QV) [v, d.enc] s = ZV (d.cells.map .val) zb x (.val (.mp s1.locs.length)) (.val (.mp s2.locs.length)) (.val (.int .i64 0)) (.val (.int .i64 d.cons.length)) (.val v) (.val (.int .i64 t.length)) (.val (.int .i64 0)) (s2.addLoc (.map [] 0)) := by
  rw [Qc1]
  simp only [go_sem, Nat.reduceAdd, Dec.enc, Dec.cells_eq, List.map_cons, List.map_nil, e1, e2, hv, List.length_map, zb]
 rw [e4]
 exact e3
theorem Q5D (k : Int) (g : Str → Option Int) (res : Ty) (vars : Int) (data : Str) (of_ : Int) : ∀ (l : List Con) (met : List Str) (tag : Int) (out : List Place), (consD k g res vars data of_ l met tag out).1.length ≤ out.length + l.length
 | [], _, _, _ => Nat.le_refl _
 | c :: l, met, tag, out => by
   simp only [consD]
   split
   ·simp
   ·have := Q5D k g res vars data of_ l (met ++ [c.name]) (tag + 1) (out ++ [conPlace res vars data tag of_ c])
    simp only [List.length_append, List.length_cons, List.length_nil] at this ⊢
    omega
theorem Q4I (k : Int) (g : Str → Option Int) (res : Ty) (hr : WideTy res) (vars : Int) (data : Str) (of_ : Int) : ∀ (l : List Con) (met : List Str) (tag : Int) (out : List Place), (∀ c ∈ l, WideTy c.arg) → (∀ p ∈ out, WideTy p.ty) → ∀ p ∈ (consD k g res vars data of_ l met tag out).1, WideTy p.ty
 | [], _, _, _, _, h => h
 | c :: l, met, tag, out, hl, h => by
   simp only [consD]
   split
   ·simp
   ·refine Q4I k g res hr vars data of_ l _ _ _ (fun c hc => hl c (List.mem_cons_of_mem _ hc)) fun p hp => ?_
    rcases List.mem_append.1 hp with hp | hp
    ·exact h p hp
    ·simp only [List.mem_singleton] at hp
     subst hp
     simp only [conPlace]
     cases c.has with
     | true => exact QgJ (hl c List.mem_cons_self) hr
     | false => exact QfT res [] hr (by simp)
theorem QeW (t : List Place) (d : Dec) : (addD t d).1.length ≤ t.length + d.cons.length := by
 unfold addD
 cases decide (d.kind = 3) with
 | true =>
   simp only [cond_true]
   cases (knownD t d.name).isSome with
   | true => simp
   | false => exact Q5D _ _ _ _ _ _ _ _ _ _
 | false =>
   simp only [cond_false]
   cases decide (d.kind = 4) with
   | true => exact Q5D _ _ _ _ _ _ _ _ _ _
   | false => simp
theorem QdK (t : List Place) (d : Dec) (hp : d.params < 2^28) (hl : ∀ c ∈ d.cons, WideTy c.arg) (h : ∀ p ∈ t, WideTy p.ty) : ∀ p ∈ (addD t d).1, WideTy p.ty := by
 unfold addD
 cases decide (d.kind = 3) with
 | true =>
   simp only [cond_true]
   cases (knownD t d.name).isSome with
   | true => simp
   | false => exact Q4I _ _ _ (Q4N d hp) _ _ _ _ _ _ _ hl h
 | false =>
   simp only [cond_false]
   cases decide (d.kind = 4) with
   | true => exact Q4I _ _ _ (Q4N d hp) _ _ _ _ _ _ _ hl h
   | false => exact h
def DecFit (d : Dec) : Prop := d.params < 2^28 ∧ ∀ c ∈ d.cons, WideTy c.arg
theorem Qch : ∀ p ∈ startD, WideTy p.ty := by
 intro p hp
 simp only [startD, List.mem_cons, List.not_mem_nil, or_false] at hp
 rcases hp with rfl | rfl | rfl | rfl | rfl | rfl <;> exact Q36 (by simp) (by simp)
def consOf : List Dec → Nat
 | [] => 0
 | d :: l => d.cons.length + consOf l
theorem Q9z : ∀ l : List Dec, consOf l ≤ Dec.sizes l
 | [] => Nat.zero_le _
 | .mk k a nm p l lb c cb f fb :: r => by
   have h1 := Q9z r
   have h2 := Con.len_sizes l
   simp only [consOf, Dec.sizes, Dec.size, Dec.cons]; omega
theorem Q5E (P : List Dec) (hP : P.length < 2^40) (y : Slot) (hy : y.list? = some (P.map Dec.enc)) (s0 : St) : ∀ (suf pre : List Dec) (t : List Place) (x : Slot) (v : AV) (s : St) (i : Nat), pre ++ suf = P → i = pre.length → (∀ d ∈ suf, DecFit d) → t.length + consOf suf < 2^26 → (∀ p ∈ t, WideTy p.ty) → x.av = some v → (Slot.val v).list? = some (t.map Place.enc) → Grew s0 s →
  RetT (Q1M zb x y (.val (.int .i64 P.length)) (.val (.int .i64 i)) s) s0 (ofD suf t)
 | [], pre, t, x, v, s, i, hp, hi, hF, hl, hw, hx, hv, g => by
   subst hi
   refine ⟨s, v, ?_, hv, g⟩
   rw [Q59]; simp only [go_sem, Nat.reduceAdd, Nat.reduceLeDiff, Qa (by simpa using hp), zb, Q5y hx]
   rfl
 | d :: suf, pre, t, x, v, s, i, hp, hi, hF, hl, hw, hx, hv, g => by
   subst hi
   obtain ⟨f1, f2, f3⟩ := Q9 hy hp (by omega) (Dec.cells_len d) (by decide)
   obtain ⟨hf1, hf2⟩ := hF d List.mem_cons_self
   simp only [consOf] at hl
   obtain ⟨s1, w, e1, hw1, g1⟩ := Q58 t d (by omega) hw hf1 (by omega) hf2 v hv s
   have hlen := QeW t d
   have ih := Q5E P hP y hy s0 suf (pre ++ [d]) (addD t d).1 (.val w) w s1 (pre.length + 1) (by simpa using hp) (by simp) (fun q hq => hF q (List.mem_cons_of_mem _ hq)) (by omega) (QdK t d hf1 hf2 hw) rfl hw1 (g.trans g1)
   rw [Q59]
   simp only [Dec.enc, Dec.cells_eq] at e1
   simp only [ofD]
   by_cases hz : (addD t d).2.kind = 0
   ·rw [if_neg (by simpa using hz)]
    simp only [go_sem, Nat.reduceAdd, Nat.reduceLeDiff, f1, f2, f3, Dec.cells_eq, ZB hx, e1, TBad.enc, TBad.cells, List.map_cons, List.map_nil, hz, decide_true, Bool.not_true]
    exact ih
   ·rw [if_pos (by simpa using hz)]
    refine ⟨s1, .nils, ?_, rfl, g.trans g1⟩
    simp only [go_sem, Nat.reduceAdd, Nat.reduceLeDiff, f1, f2, f3, Dec.cells_eq, ZB hx, e1, TBad.enc, TBad.cells, List.map_cons, List.map_nil, decide_eq_false hz, Bool.not_false, zb]
theorem QaY (P : List Dec) (nl : Bool) (hF : ∀ d ∈ P, DecFit d) (hs : Dec.sizes P < 2^25) (s : St) : RetT (cw (.f Q3D) [encS nl (P.map Dec.enc)] s) s (ofD P startD) := by
 obtain ⟨s1, e1, g1⟩ := Q1N s
 have hl := Dec.len_sizes P
 have hc := Q9z P
 have e2 := Q5E P (by omega) (.val (encS nl (P.map Dec.enc))) (Qk _ _) s P [] startD (.full (startD.map Place.enc)) (.sl (startD.map Place.enc)) s1 0 rfl rfl hF (by simp only [startD, List.length_cons, List.length_nil]; omega) Qch rfl rfl g1
 rw [show ((0 : Nat) : Int) = 0 from rfl] at e2
 rw [Qd4]
 simp only [go_sem, e1, List.length_map, zb] at e2 ⊢
 exact e2
end Go.Proofs.Ytoahliipbclneaa
namespace Go.Proofs.Ytoahliipbclneaa
open Go Go.Am
set_option linter.unusedVariables false
def ownP (p : Place) : Place := { p with ty := ownTy p.ty }
def dataR (data : Str) (t : List Place) : List Place := (t.filter fun p => decide (p.data = data)).map ownP
def givenR (nm : Str) : Bool := decide (nm = sInt) || decide (nm = sBool) || decide (nm = sUnit) || decide (nm = sExn) || decide (nm = sRef) || decide (nm = sArrow) || decide (nm = sStar)
def dtR (t : List Place) (nm : Str) : Int × Bool := bif givenR nm then (0, false) else match dataR nm t with
 | [] => (0, false)
 | p :: _ => (p.vars, true)
def wrongR1 (t : List Place) (d : Dec) (u : Ty) : Int × Bool := bif decide (d.kind = 3) && decide (u.name = d.name) then (d.params, true) else dtR t u.name
def wrongR (t : List Place) (d : Dec) (u : Ty) : Int × Str :=
 bif decide (u.kind = 1) then (bif !decide (d.kind = 3) || decide (u.n ≥ d.params) then (16, []) else (0, []))
 else bif givenR u.name then (0, []) else bif !(wrongR1 t d u).2 then (8, u.name) else bif !decide ((u.args.length : Int) = (wrongR1 t d u).1) then (19, u.name) else (0, [])
def firstW (t : List Place) (d : Dec) : List Ty → Int × Str
 | [] => (0, [])
 | u :: l => if (wrongR t d u).1 ≠ 0 then wrongR t d u else firstW t d l
def resR (d : Dec) : Ty := bif decide (d.kind = 4) then ofTy sExn [] else .mk 2 0 d.name (bif decide (d.kind = 3) then varsTy d.params.toNat else []) true
end Go.Proofs.Ytoahliipbclneaa
namespace Go.Am
open Go
def Within (l : List TNode) (D : Int) (S : Nat) : Prop := ∀ n ∈ l, (∀ e, n = .exp e → (∃ a b, l = a ++ (nodesExp e ++ b)) ∧ deepExp e ≤ D ∧ e.size ≤ S) ∧ (∀ p, n = .pat p → (∃ a b, l = a ++ (nodesPat p ++ b)) ∧ deepPat p ≤ D ∧ p.size ≤ S)
theorem Within.nil (D : Int) (S : Nat) : Within [] D S := fun n hn => by cases hn
theorem Within.mono {l : List TNode} {D E : Int} {S T : Nat} (h : Within l D S) (hd : D ≤ E) (hs : S ≤ T) : Within l E T := fun n hn => ⟨fun e he => by
 obtain ⟨h1, h2, h3⟩ := (h n hn).1 e he
 exact ⟨h1, by omega, by omega⟩, fun p hp => by
 obtain ⟨h1, h2, h3⟩ := (h n hn).2 p hp
 exact ⟨h1, by omega, by omega⟩⟩
theorem Within.app {l m : List TNode} {D : Int} {S : Nat} (h : Within l D S) (g : Within m D S) : Within (l ++ m) D S := fun n hn => by
 rcases List.mem_append.1 hn with hn | hn
 ·refine ⟨fun e he => ?_, fun p hp => ?_⟩
  ·obtain ⟨⟨a, b, hab⟩, hd⟩ := (h n hn).1 e he
   exact ⟨⟨a, b ++ m, by rw [hab]; simp⟩, hd⟩
  ·obtain ⟨⟨a, b, hab⟩, hd⟩ := (h n hn).2 p hp
   exact ⟨⟨a, b ++ m, by rw [hab]; simp⟩, hd⟩
 ·refine ⟨fun e he => ?_, fun p hp => ?_⟩
  ·obtain ⟨⟨a, b, hab⟩, hd⟩ := (g n hn).1 e he
   exact ⟨⟨l ++ a, b, by rw [hab]; simp⟩, hd⟩
  ·obtain ⟨⟨a, b, hab⟩, hd⟩ := (g n hn).2 p hp
   exact ⟨⟨l ++ a, b, by rw [hab]; simp⟩, hd⟩
theorem Within.cons {l : List TNode} {D : Int} {S : Nat} {n : TNode} (h : Within l D S) (h1 : ∀ e, n = .exp e → n :: l = nodesExp e ∧ deepExp e ≤ D ∧ e.size ≤ S) (h2 : ∀ p, n = .pat p → n :: l = nodesPat p ∧ deepPat p ≤ D ∧ p.size ≤ S) : Within (n :: l) D S := fun m hm => by
 rcases List.mem_cons.1 hm with rfl | hm
 ·exact ⟨fun e he => ⟨⟨[], [], by rw [(h1 e he).1]; simp⟩, (h1 e he).2⟩, fun p hp => ⟨⟨[], [], by rw [(h2 p hp).1]; simp⟩, (h2 p hp).2⟩⟩
 ·refine ⟨fun e he => ?_, fun p hp => ?_⟩
  ·obtain ⟨⟨a, b, hab⟩, hd⟩ := (h m hm).1 e he
   exact ⟨⟨n :: a, b, by rw [hab]; simp⟩, hd⟩
  ·obtain ⟨⟨a, b, hab⟩, hd⟩ := (h m hm).2 p hp
   exact ⟨⟨n :: a, b, by rw [hab]; simp⟩, hd⟩
mutual
theorem Qaj (a : Int) (D : Int) (S : Nat) : ∀ t : Ty, Within (nodesTy a t) D S
 | .mk k n s l b => by
   rw [nodesTy]
   exact (Q8U a D S l).cons (fun e he => by cases he) (fun p hp => by cases hp)
theorem Q8U (a : Int) (D : Int) (S : Nat) : ∀ l : List Ty, Within (nodesTys a l) D S
 | [] => by rw [nodesTys]; exact .nil D S
 | t :: l => by rw [nodesTys]; exact (Qaj a D S t).app (Q8U a D S l)
end
mutual
theorem Q54 : ∀ t : Pat, Within (nodesPat t) (deepPat t) t.size
 | .mk k a s n l b => by
   have h := Q7k l 0
   rw [nodesPat]
   refine (h.mono (by simp only [deepPat]; omega) (by simp only [Pat.size]; omega)).cons (fun e he => by cases he) (fun p hp => by cases hp; exact ⟨by rw [nodesPat], Int.le_refl _, Nat.le_refl _⟩)
theorem Q7k : ∀ (l : List Pat) (n : Int), Within (nodesPats l) (deepPats l n) (Pat.sizes l)
 | [], n => by rw [nodesPats]; exact .nil _ _
 | t :: l, n => by
   rw [nodesPats, deepPats, Pat.sizes]
   have h1 := (Q44 l (maxI n (deepPat t))).1
   have h2 := Q0Z n (deepPat t)
   exact ((Q54 t).mono (by omega) (by omega)).app ((Q7k l _).mono (Int.le_refl _) (by omega))
end
theorem Qdy (c : Con) (D : Int) (S : Nat) : Within (nodesCon c) D S := by
 unfold nodesCon
 refine Within.cons ?_ (fun e he => by cases he) (fun p hp => by cases hp)
 cases c.has
 ·exact .nil D S
 ·exact Qaj _ D S _
theorem Q7g (D : Int) (S : Nat) : ∀ l : List Con, Within (nodesCons l) D S
 | [] => by rw [nodesCons]; exact .nil D S
 | t :: l => by rw [nodesCons]; exact (Qdy t D S).app (Q7g D S l)
mutual
theorem Q53 : ∀ t : Exp, Within (nodesExp t) (deepExp t) t.size
 | .mk k a s n l lb c cb d db => by
   have h1 := Q7h true d 0
   have h2 := Q7i l (maxI (deepDecs d 0) (deepCases c 0))
   have h3 := Q3B c 0
   have g1 := (Q2l l (maxI (deepDecs d 0) (deepCases c 0))).1
   have g2 := Q0Z (deepDecs d 0) (deepCases c 0)
   rw [nodesExp]
   refine Within.cons ((h1.mono ?_ ?_).app ((h2.mono ?_ ?_).app (h3.mono ?_ ?_))) (fun e he => by cases he; exact ⟨by rw [nodesExp], Int.le_refl _, Nat.le_refl _⟩) (fun p hp => by cases hp)
   all_goals simp only [deepExp, Exp.size]; omega
theorem Q7i : ∀ (l : List Exp) (n : Int), Within (nodesExps l) (deepExps l n) (Exp.sizes l)
 | [], n => by rw [nodesExps]; exact .nil _ _
 | t :: l, n => by
   rw [nodesExps, deepExps, Exp.sizes]
   have h1 := (Q2l l (maxI n (deepExp t))).1
   have h2 := Q0Z n (deepExp t)
   exact ((Q53 t).mono (by omega) (by omega)).app ((Q7i l _).mono (Int.le_refl _) (by omega))
theorem Qco : ∀ c : Case, Within (nodesCase c) (deepCase c) c.size
 | .mk p e => by
   have h1 := Q54 p
   have h2 := Q53 e
   have h3 := Q0Z 0 (deepPat p)
   have h4 := Q0Z (maxI 0 (deepPat p)) (deepExp e)
   rw [nodesCase, deepCase, Case.size]
   exact (h1.mono (by omega) (by omega)).app (h2.mono (by omega) (by omega))
theorem Q3B : ∀ (l : List Case) (n : Int), Within (nodesCases l) (deepCases l n) (Case.sizes l)
 | [], n => by rw [nodesCases]; exact .nil _ _
 | .mk p e :: l, n => by
   have h1 := Q54 p
   have h2 := Q53 e
   have h3 := Q0Z n (deepPat p)
   have h4 := Q0Z (maxI n (deepPat p)) (deepExp e)
   have h5 := (Q09 l (maxI (maxI n (deepPat p)) (deepExp e))).1
   have h6 := Q3B l (maxI (maxI n (deepPat p)) (deepExp e))
   rw [nodesCases, nodesCase, deepCases, Case.sizes, Case.size]
   exact ((h1.mono (by omega) (by omega)).app (h2.mono (by omega) (by omega))).app (h6.mono (Int.le_refl _) (by omega))
theorem Q7h (i : Bool) : ∀ (l : List Dec) (n : Int), Within (nodesDecs i l) (deepDecs l n) (Dec.sizes l)
 | [], n => by rw [nodesDecs]; exact .nil _ _
 | .mk k a s p l lb c cb f fb :: r, n => by
   have h1 := Q3B c 0
   have h2 := Q7j f (deepCases c 0)
   have h3 := fun D S => Q7g D S l
   have h4 := Q7h i r (maxI n (deepCons l (deepFuns f (deepCases c 0)) + 1))
   have g1 := (Q1a f (deepCases c 0)).1
   have g2 := (Q2j l (deepFuns f (deepCases c 0))).1
   have g3 := (Q2k r (maxI n (deepCons l (deepFuns f (deepCases c 0)) + 1))).1
   have g4 := Q0Z n (deepCons l (deepFuns f (deepCases c 0)) + 1)
   rw [nodesDecs, nodesDec, deepDecs, Dec.sizes, Dec.size]
   exact (Within.cons ((h1.mono (by omega) (by omega)).app ((h2.mono (by omega) (by omega)).app (h3 _ _))) (fun e he => by cases he) (fun p hp => by cases hp)).app (h4.mono (Int.le_refl _) (by omega))
theorem Q7j : ∀ (l : List Fun) (n : Int), Within (nodesFuns l) (deepFuns l n) (Fun.sizes l)
 | [], n => by rw [nodesFuns]; exact .nil _ _
 | .mk s a c :: l, n => by
   have h1 := Qco c
   have h2 := Q7j l (maxI n (deepCase c))
   have g1 := (Q1a l (maxI n (deepCase c))).1
   have g2 := Q0Z n (deepCase c)
   rw [nodesFuns, nodesFun, deepFuns, Fun.sizes, Fun.size]
   exact (Within.cons (h1.mono (by omega) (by omega)) (fun e he => by cases he) (fun p hp => by cases hp)).app (h2.mono (Int.le_refl _) (by omega))
end
theorem Q5L : ∀ l : List TNode, firstBad l = .zero → ∀ n ∈ l, n.bad.kind = 0
 | [], _, n, hn => by cases hn
 | u :: l, h, n, hn => by
   rw [firstBad] at h
   by_cases hu : u.bad.kind = 0
   ·rw [decide_eq_true hu, cond_true] at h
    rcases List.mem_cons.1 hn with rfl | hn
    ·exact hu
    ·exact Q5L l h n hn
   ·rw [decide_eq_false hu, cond_false] at h
    rw [h] at hu
    exact absurd rfl hu
end Go.Am
namespace Go.Am
open Go
set_option linter.unusedVariables false
theorem Qcf {l : List TNode} {D : Int} (h : rightN l D = .zero) : firstBad l = .zero := by
 unfold rightN at h
 cases h1 : decide (countN l > 8192) with
 | true => rw [h1, cond_true] at h; cases h
 | false =>
   rw [h1, cond_false] at h
   cases h2 : decide (D > 100) with
   | true => rw [h2, cond_true] at h; cases h
   | false => rw [h2, cond_false] at h; exact h
theorem wrong0 {n : TNode} (h : n.bad.kind = 0) : n.wrong.1 = 0 := by
 unfold TNode.bad mkBad at h
 by_cases e : n.wrong.1 = 0
 ·exact e
 ·rw [decide_eq_false e, cond_false] at h; exact h
theorem Q77 {l : List TNode} {D : Int} (h : rightN l D = .zero) : ∀ n ∈ l, n.wrong.1 = 0 := fun n hn => wrong0 (Q5L l (Qcf h) n hn)
theorem Q5b : ∀ l : List TNode, (firstBad l).kind = 0 → firstBad l = .zero
 | [], _ => rfl
 | n :: l, h => by
   rw [firstBad] at h ⊢
   by_cases e : n.bad.kind = 0
   ·rw [decide_eq_true e, cond_true] at h ⊢; exact Q5b l h
   ·rw [decide_eq_false e, cond_false] at h; exact absurd h e
theorem Q8F {l : List TNode} {D : Int} : (rightN l D).kind = 0 ↔ rightN l D = .zero := by
 constructor
 ·unfold rightN
  cases decide (countN l > 8192) with
  | true => intro h; cases h
  | false =>
    cases decide (D > 100) with
    | true => intro h; cases h
    | false => exact Q5b l
 ·intro h; rw [h]; rfl
structure DecIs (k : Int) (nm : Str) (p nl nc nf : Int) (inn : Bool) : Prop where
 kind : k = 1 ∨ k = 2 ∨ k = 3 ∨ k = 4
 val : k = 1 → nc = 1 ∧ ¬ nf > 0 ∧ ¬ nl > 0
 fn : k = 2 → ¬ nc > 0 ∧ ¬ nl > 0 ∧ nf > 0
 data : k = 3 → ¬ nc > 0 ∧ ¬ nf > 0 ∧ 0 ≤ p ∧ p ≤ 8 ∧ lowB nm = true ∧ nl > 0 ∧ nl ≤ 64
 exn : k = 4 → ¬ nc > 0 ∧ ¬ nf > 0 ∧ nl = 1
 bare : k ≠ 3 → p = 0 ∧ nm = []
 inn : inn = true → k = 1 ∨ k = 2
theorem Qgp {k : Int} {nm : Str} {p nl nc nf : Int} {inn : Bool} (h : wrongDecC k nm p nl nc nf inn = 0) : DecIs k nm p nl nc nf inn := by
 unfold wrongDecC at h
 by_cases h1 : k = 1
 ·subst h1
  simp only [decide_true, cond_true, Int.reduceEq, decide_false, cond_false] at h
  grind [DecIs]
 ·by_cases h2 : k = 2
  ·subst h2
   simp only [decide_true, cond_true, Int.reduceEq, decide_false, cond_false] at h
   grind [DecIs]
  ·by_cases h3 : k = 3
   ·subst h3
    simp only [decide_true, cond_true, Int.reduceEq, decide_false, cond_false] at h
    grind [DecIs]
   ·by_cases h4 : k = 4
    ·subst h4
     simp only [decide_true, cond_true, Int.reduceEq, decide_false, cond_false] at h
     grind [DecIs]
    ·simp only [decide_eq_false h1, decide_eq_false h2, decide_eq_false h3, decide_eq_false h4, cond_false, Bool.not_false, Bool.true_or, cond_true] at h
     cases h
theorem Qe0 {d : Dec} {inn : Bool} (h : wrongDecB d inn = 0) : DecIs d.kind d.name d.params d.cons.length d.case.length d.funs.length inn := Qgp h
theorem len0 {α : Type} {l : List α} (h : ¬ ((l.length : Int) > 0)) : l = [] := List.eq_nil_of_length_eq_zero (by omega)
theorem Ql4 {t : Ty} (h : wrongTyB t = 0) : (t.kind = 1 ∨ t.kind = 2) ∧ (t.kind = 1 → t.args = [] ∧ 0 ≤ t.n ∧ t.name = []) ∧ (t.kind = 2 → t.n = 0) := by
 unfold wrongTyB wrongTyC at h
 have : ¬ ((t.args.length : Int) > 0) → t.args = [] := len0
 grind
end Go.Am
namespace Go.Proofs.Ytoahliipbclneaa
open Go Go.Am
set_option linter.unusedVariables false
def TabEq (t u : List Place) : Prop := t.map ownP = u.map ownP
theorem Qew : ∀ t : Ty, ownTy (ownTy t) = ownTy t ∧ True := fun t => ⟨own1 t, trivial⟩
where
 own1 : ∀ t : Ty, ownTy (ownTy t) = ownTy t
 | .mk k n s l b => by simp only [ownTy, ownTys_own l]
 ownTys_own : ∀ l : List Ty, ownTys (ownTys l) = ownTys l
 | [] => rfl
 | t :: l => by simp only [ownTys, own1 t, ownTys_own l]
theorem Qfy (p : Place) : ownP (ownP p) = ownP p := by simp only [ownP, (Qew p.ty).1]
theorem TabEq.own (t : List Place) : TabEq t (t.map ownP) := by
 unfold TabEq
 rw [List.map_map]
 exact List.map_congr_left fun p _ => (Qfy p).symm
theorem TabEq.symm {t u : List Place} (h : TabEq t u) : TabEq u t := Eq.symm h
theorem TabEq.trans {t u w : List Place} (h : TabEq t u) (k : TabEq u w) : TabEq t w := Eq.trans h k
theorem TabEq.app {t u a b : List Place} (h : TabEq t u) (k : TabEq a b) : TabEq (t ++ a) (u ++ b) := by
 unfold TabEq at *
 rw [List.map_append, List.map_append, h, k]
theorem TabEq.map {α : Type} {t u : List Place} (h : TabEq t u) (f : Place → α) (hf : ∀ p, f (ownP p) = f p) : t.map f = u.map f := by
 have h1 : ∀ l : List Place, l.map f = (l.map ownP).map f := fun l => by
  rw [List.map_map]; exact List.map_congr_left fun p _ => (hf p).symm
 rw [h1 t, h1 u, h]
theorem TabEq.names {t u : List Place} (h : TabEq t u) : t.map Place.name = u.map Place.name := h.map _ fun _ => rfl
theorem TabEq.len {t u : List Place} (h : TabEq t u) : t.length = u.length := by
 have := congrArg List.length h
 simpa using this
def varsOf (nm : Str) : List (Str × Int) → Option Int
 | [] => none
 | p :: l => if p.1 = nm then some p.2 else varsOf nm l
def dv (t : List Place) : List (Str × Int) := t.map fun p => (p.data, p.vars)
theorem TabEq.dv {t u : List Place} (h : TabEq t u) : dv t = dv u := h.map _ fun _ => rfl
theorem Qel (nm : Str) : known0 nm = bif givenR nm then some (-1) else none := by
 unfold known0 givenR upd
 by_cases h1 : nm = sStar
 ·simp [h1]
 ·by_cases h2 : nm = sArrow
  ·simp [h2]
  ·by_cases h3 : nm = sRef
   ·simp [h3]
   ·by_cases h4 : nm = sExn
    ·simp [h4]
    ·by_cases h5 : nm = sUnit
     ·simp [h5]
     ·by_cases h6 : nm = sBool
      ·simp [h6]
      ·by_cases h7 : nm = sInt
       ·simp [h7]
       ·simp [h1, h2, h3, h4, h5, h6, h7]
theorem Qbi (g : Str → Option Int) (p : Place) (nm : Str) : knownStep g p nm = match g nm with | some v => some v | none => if p.data = nm then some p.vars else none := by
 unfold knownStep
 by_cases h : nm = p.data
 ·subst h
  cases hg : g p.data with
  | none => simp [upd]
  | some v => simp [hg]
 ·cases hg : g p.data with
  | none =>
    simp only []
    rw [QeM _ _ h]
    cases g nm with
    | none => simp [Ne.symm h]
    | some v => rfl
  | some v =>
    simp only []
    cases g nm with
    | none => simp [Ne.symm h]
    | some v => rfl
theorem Q8e (nm : Str) : ∀ (t : List Place) (g : Str → Option Int), t.foldl knownStep g nm = match g nm with | some v => some v | none => varsOf nm (dv t)
 | [], g => by simp only [List.foldl_nil, dv, List.map_nil, varsOf]; cases g nm <;> rfl
 | p :: t, g => by
   rw [List.foldl_cons, Q8e nm t (knownStep g p), Qbi]
   cases g nm with
   | some v => rfl
   | none =>
     simp only [dv, List.map_cons, varsOf]
     by_cases h : p.data = nm
     ·simp [h]
     ·simp [h]
theorem Qem (t : List Place) (nm : Str) : knownD t nm = bif givenR nm then some (-1) else varsOf nm (dv t) := by
 rw [knownD, Q8e, Qel]
 cases givenR nm <;> rfl
theorem Q8b (t : List Place) (d : Dec) : ∀ (a b : List Ty), firstW t d (a ++ b) = if (firstW t d a).1 ≠ 0 then firstW t d a else firstW t d b
 | [], b => by simp [firstW]
 | u :: a, b => by
   simp only [List.cons_append, firstW, Q8b t d a b]
   by_cases h : (wrongR t d u).1 = 0
   ·simp [h]
   ·simp [h]
def TyIs (t : Ty) : Prop := ∀ u ∈ preTy t, u.kind = 1 → u.args = [] ∧ 0 ≤ u.n
theorem Q8u : ∀ {l : List Ty} {w u : Ty}, w ∈ l → u ∈ preTy w → u ∈ preTys l
 | x :: l, w, u, h, hu => by
   simp only [preTys, List.mem_append]
   rcases List.mem_cons.1 h with rfl | h
   ·exact .inl hu
   ·exact .inr (Q8u h hu)
structure WH (u : List Place) (d : Dec) (g : Str → Option Int) (vars : Int) : Prop where
 hk : ∀ v : Ty, v.kind = 1 → 0 ≤ v.n → (wrongR u d v = if v.n ≥ vars then (16, []) else (0, []))
 hg : ∀ v : Ty, v.kind ≠ 1 → wrongR u d v = match g v.name with | none => (8, v.name) | some m => if m ≥ 0 ∧ m ≠ (v.args.length : Int) then (19, v.name) else (0, [])
mutual
theorem QfW {u : List Place} {d : Dec} {g : Str → Option Int} {vars : Int} (H : WH u d g vars) : ∀ v : Ty, TyIs v → wrongD g vars v = firstW u d (preTy v)
 | .mk k n nm l b, hT => by
   have h0 := hT (.mk k n nm l b) (by simp only [preTy]; exact List.mem_cons_self)
   simp only [Ty.kind, Ty.args, Ty.n] at h0
   simp only [preTy, wrongD]
   by_cases h1 : k = 1
   ·obtain ⟨rfl, hn⟩ := h0 h1
    subst h1
    have := H.hk (.mk 1 n nm [] b) rfl hn
    simp only [preTys, firstW, this, Ty.n, if_true]
    by_cases hv : n ≥ vars
    ·simp [hv]
    ·simp [hv]
   ·have := H.hg (.mk k n nm l b) h1
    have hl := Qak H l (fun w hw u hu => hT u (by simp only [preTy]; exact List.mem_cons_of_mem _ (Q8u hw hu)))
    simp only [Ty.name, Ty.args] at this
    simp only [firstW, this, h1, if_false]
    cases g nm with
    | none => simp
    | some m =>
      simp only
      by_cases hm : m ≥ 0 ∧ m ≠ (l.length : Int)
      ·simp [hm]
      ·simp only [hm, if_false, ne_eq, not_true_eq_false]
       exact hl
theorem Qak {u : List Place} {d : Dec} {g : Str → Option Int} {vars : Int} (H : WH u d g vars) : ∀ l : List Ty, (∀ v ∈ l, TyIs v) → wrongsD g vars l = firstW u d (preTys l)
 | [], _ => by simp only [wrongsD, preTys, firstW]
 | v :: l, hT => by
   simp only [wrongsD, preTys, Q8b, QfW H v (hT v List.mem_cons_self), Qak H l fun w hw => hT w (List.mem_cons_of_mem _ hw)]
end
theorem Qdv (n : Nat) : (varsTy n).map ownTy = varsTy n := by
 unfold varsTy
 rw [List.map_map]
 exact List.map_congr_left fun i _ => rfl
theorem Q8v : ∀ l : List Nat, (chTys (toPut []) (l.map fun i : Nat => tvar (i : Int)) ()).1 = l.map fun i : Nat => tvar (i : Int)
 | [] => rfl
 | i :: l => by
   have h : chTy (toPut []) (tvar (i : Int)) () = (tvar (i : Int), ()) := by
    simp only [tvar, chTy, decide_true, cond_true, toPut, List.length_nil]
    rw [if_neg (by omega)]
   simp only [List.map_cons, chTys, h, Q8v l]
theorem Qfh (d : Dec) (hk : d.kind = 3 ∨ d.kind = 4) : (headD d).1 = resR d := by
 unfold headD resR
 rcases hk with h | h
 ·simp only [h, Int.reduceEq, decide_false, decide_true, cond_false, cond_true, ofTy, Qdv]
 ·simp only [h, decide_true, cond_true]
theorem QcO (d : Dec) (hk : d.kind = 3 ∨ d.kind = 4) : putTy (resR d) [] = resR d := by
 unfold resR putTy
 rcases hk with h | h
 ·simp only [h, Int.reduceEq, decide_false, decide_true, cond_false, cond_true, chTy, varsTy, Q8v]
 ·simp only [h, decide_true, cond_true, ofTy, List.map_nil, chTy, Int.reduceEq, decide_false, cond_false, chTys]
structure DecOK (d : Dec) : Prop where
 kind : d.kind = 1 ∨ d.kind = 2 ∨ d.kind = 3 ∨ d.kind = 4
 data : d.kind = 3 → 0 ≤ d.params
 exn : d.kind = 4 → d.cons.length = 1
 arg : ∀ c ∈ d.cons, c.has = true → TyIs c.arg
end Go.Proofs.Ytoahliipbclneaa