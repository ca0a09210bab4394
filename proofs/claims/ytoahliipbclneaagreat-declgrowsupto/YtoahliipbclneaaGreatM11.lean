/- A part of the proof: SDecl1, PTy2, PDecl, SDecl2, SMap, SDecl3, PScope, SScope1, SDecl4, SDecl5. -/
import Derived.Test.YtoahliipbclneaaGreatM8
import Derived.Test.YtoahliipbclneaaGreatM9
import Derived.Test.YtoahliipbclneaaGreatM10
set_option linter.unusedVariables false
set_option linter.unusedSimpArgs false
namespace Go.Proofs.YtoahliipbclneaaGreat
open Go Go.Am
set_option linter.unusedVariables false
set_option maxRecDepth 4000
def CloneOK (t : Ty) : Prop := ∀ s, Ret (cw (.f Q0u) [t.enc] s) s t.enc
theorem Ty.ofC (t : Ty) : ofCells (C.ti Q4) t.enc.cells = some t.enc := Q3p Qde (by rw [Zp]; exact Ty.cells_len t)
theorem Ty.plainC (t : Ty) : ∀ x ∈ t.cells, plainV x = true := by
 rw [Ty.cells_eq]
 intro x hx
 simp only [List.mem_cons, List.not_mem_nil, or_false] at hx
 rcases hx with rfl | rfl | rfl | rfl
 ·rfl
 ·rfl
 ·rfl
 ·cases hb : t.nl <;> cases t.args <;> rfl
theorem Q5b (t : Ty) (hl : t.args.length < 2^28) (s0 : St) (loc : Nat) (hloc : s0.locs.length ≤ loc) (z : List Slot) (hz : z.length = 4) : ∀ (suf pre : List Ty) (s : St) (i : Nat), Grew s0 s → Holds s loc (t.args.map Ty.enc) → pre ++ suf = t.args → i = pre.length → (∀ u ∈ suf, CloneOK u) →
  Ret (Q19 [.val (.int .i64 t.kind), .val (.int .i64 t.n), .val (.str t.name), .val (.vs loc Q4 4 0 t.args.length)] z (.val (.vs loc Q4 4 0 t.args.length)) (.val (.int .i64 t.args.length)) (.val (.int .i64 i)) s) s0 (.agg [.int .i64 t.kind, .int .i64 t.n, .str t.name, .sl (t.args.map Ty.enc)])
 | [], pre, s, i, hg, hh, h, hi, H => by
   subst hi
   have hf := hh.frz (ti := C.ti) (e := Q4) (fun v hv => by
    obtain ⟨u, _, rfl⟩ := List.mem_map.1 hv
    exact ⟨by rw [Zp]; exact Ty.cells_len u, Ty.ofC u⟩) (fun v hv => by
    obtain ⟨u, _, rfl⟩ := List.mem_map.1 hv
    exact Ty.plainC u) (by rw [Zp]; decide)
   rw [Zp, List.length_map] at hf
   rw [Q11]; simp only [go_sem, Nat.reduceAdd, Nat.reduceLeDiff, Q9 (by simpa using h), frzSlots, Q5A, Q5B, Q78, hf, hz]
   exact ⟨_, rfl, Q5i hg hloc _⟩
 | u :: suf, pre, s, i, hg, hh, h, hi, H => by
   subst hi
   have hlt : pre.length < t.args.length := by rw [← h]; simp
   obtain ⟨f1, -, f3⟩ := Q8 (f := Ty.enc) (x := .val (encS t.nl (t.args.map Ty.enc))) (Qf _ _) h (by omega) (Ty.cells_len u) (by decide)
   have hat : (t.args.map Ty.enc)[pre.length]? = some u.enc := by rw [← h]; simp
   have hsz : ∀ v ∈ t.args.map Ty.enc, v.cells.length = 4 := fun v hv => by
    obtain ⟨w, _, rfl⟩ := List.mem_map.1 hv
    exact Ty.cells_len w
   have f2 := hh.ld (t := C.ti Q4) (by rw [Zp]; exact hsz) hat
   rw [Zp] at f2
   obtain ⟨s1, e1, g1⟩ := H u List.mem_cons_self s
   have f4 : stV s1 (.val (.vp loc (pre.length * 4))) (u.cells.map .val) = some s1 := (hh.move g1).st hsz hat
   have f5 := Qhb (sz := 4) (loc := loc) (lo := 0) (m := t.args.length) (e := Q4) (k := .i64) (n := pre.length) hlt (by decide)
   rw [Nat.zero_add] at f5
   have ih := Q5b t hl s0 loc hloc z hz suf (pre ++ [u]) s1 (pre.length + 1) (hg.trans g1) (hh.move g1) (by simpa using h) (by simp) (fun w hw => H w (List.mem_cons_of_mem _ hw))
   rw [Q11]; simp only [go_sem, Nat.reduceAdd, Nat.reduceLeDiff, f1, f2, f3, f4, f5, e1] at ih ⊢
   exact ih
theorem QcH (s : St) : cw (.f Z5) [.nils] s = some (.ret (.val .nils), s) := by
 rw [Q0p]; simp only [go_sem, Qi6 Q68]
theorem Q9G (s : St) : cw (.f Z5) [.sl []] s = some (.ret (.full []), s) := by
 rw [Q0p]; simp only [go_sem, Qh2 Q68, appendV, isArrS]
theorem Qb3 (l : List Ty) (hl : l.length < 2^28) (h0 : l ≠ []) (s : St) : cw (.f Z5) [.sl (l.map Ty.enc)] s = some (.ret (.val (.vs s.locs.length Q4 4 0 l.length)), s.addLoc (.var ((flatL (l.map Ty.enc)).map .val))) := by
 have e1 := QeA (e := Q4) (t := C.ti Q4) (s := s) (y := .val (.sl (l.map Ty.enc))) (l := l.map Ty.enc) rfl (by simpa using h0) (fun v hv => by
   obtain ⟨u, _, rfl⟩ := List.mem_map.1 hv
   rw [Zp]; exact Ty.cells_len u) (by rw [Zp]; decide) (by rw [Q9y, List.length_map]; omega) (by rw [List.length_map]; omega)
 rw [Zp, List.length_map] at e1
 rw [Q0p]; simp only [go_sem, Qh2 Q68, e1]
theorem Q2I : ∀ (k : Nat) (t : Ty), t.size ≤ k → WideTy t → CloneOK t
 | 0, .mk _ _ _ _ _, h, _ => by simp only [Ty.size] at h; omega
 | k + 1, .mk kd n nm l nl, h, h' => fun s => by
   simp only [Ty.size] at h
   have hl := h'.len
   rw [QcK]
   cases l with
   | nil =>
     cases nl with
     | true =>
       simp only [go_sem, Nat.reduceAdd, Nat.reduceLeDiff, QcH, Ty.enc, Ty.cells_mk, List.map_nil]
       rw [Q11]
       simp only [go_sem, Int.reduceAdd, Nat.reduceAdd, Nat.reduceLeDiff, frzSlots, Q5A, Q5B, QdF, Q78]
       exact Ret.same _ _
     | false =>
       simp only [go_sem, Nat.reduceAdd, Nat.reduceLeDiff, Q9G, Ty.enc, Ty.cells_mk, List.map_nil, Q1K]
       rw [Q11]
       simp only [go_sem, Int.reduceAdd, Nat.reduceAdd, Nat.reduceLeDiff, frzSlots, Q5A, Q5B, QdE, Q78]
       exact Ret.same _ _
   | cons u l =>
     have e1 := Q5b (.mk kd n nm (u :: l) nl) (by simp only [Ty.args]; omega) s s.locs.length (Nat.le_refl _) [.val (.int .i64 0), .val (.int .i64 0), .val (.str []), .val .nils] rfl (u :: l) [] (s.addLoc (.var ((flatL ((u :: l).map Ty.enc)).map .val))) 0 ((Grew.refl s).addLoc _) (by simp [Holds, St.addLoc, Ty.args]) rfl rfl (fun t ht => by
      have := Ty.mem_sizes ht
      exact Q2I k t (by omega) (h'.arg ht))
     rw [show ((0 : Nat) : Int) = 0 from rfl] at e1
     have e2 := Qb3 (u :: l) hl (by simp) s
     simp only [List.map_cons] at e2
     simp only [go_sem, Nat.reduceAdd, Nat.reduceLeDiff, Ty.enc, Ty.kind, Ty.n, Ty.name, Ty.args, e2, List.map_cons] at e1 ⊢
     exact e1
end Go.Proofs.YtoahliipbclneaaGreat
namespace Go.Am
open Go
mutual
theorem Qh1 : ∀ t : Ty, eqTy t t = true
 | .mk k n s l b => by simp only [eqTy, Q9Y l, decide_true, Bool.and_self]
theorem Q9Y : ∀ l : List Ty, eqTys l l = true
 | [] => by simp only [eqTys]
 | t :: l => by simp only [eqTys, Qh1 t, Q9Y l, Bool.and_self]
end
theorem Qc8 {k n : Int} {s : Str} {l : List Ty} {b : Bool} (h : goodB (.mk k n s l b) = true) (hk : k = 1) : 0 ≤ n ∧ s = [] ∧ l = [] := by
 have h : goodC k n s l.length (lowB s) = true := h
 unfold goodC at h
 simp only [decide_eq_true hk, cond_true, Bool.and_eq_true, decide_eq_true_eq] at h
 exact ⟨h.1.1, h.1.2, List.eq_nil_of_length_eq_zero (by omega)⟩
mutual
theorem QjK (L : List Ty) : ∀ t : Ty, allTy goodB t = true → putR L t = (chTy (toPut L) t ()).1
 | .mk k n s l b, h => by
   simp only [allTy, Bool.and_eq_true] at h
   simp only [putR, chTy]
   by_cases hk : k = 1
   ·obtain ⟨h0, rfl, rfl⟩ := Qc8 h.1 hk
    simp only [decide_eq_true hk, cond_true, toPut]
    split
    ·rfl
    ·simp only [ownTy, ownTys, tvar, hk]
   ·simp only [decide_eq_false hk, cond_false, Qe5 L l h.2]
theorem Qe5 (L : List Ty) : ∀ l : List Ty, allTys goodB l = true → putRs L l = (chTys (toPut L) l ()).1
 | [], _ => by simp only [putRs, chTys]
 | t :: l, h => by
   simp only [allTys, Bool.and_eq_true] at h
   simp only [putRs, chTys, QjK L t h.1, Qe5 L l h.2]
end
theorem Qam (n : Int) (l : List Int) : placeR n l < 0 ↔ placeI n l 0 = none := by
 unfold placeR
 cases h : placeI n l 0 with
 | none => simp
 | some j => simp
theorem Qcz : ∀ (a b : List Ty) (acc : List Int), varsL (a ++ b) acc = varsL b (varsL a acc)
 | [], b, acc => rfl
 | u :: a, b, acc => by simp only [List.cons_append, varsL, Qcz a b]
theorem Q8L (n : Int) (old : List Int) : (toCanon n old).2 = if placeR n old < 0 then old ++ [n] else old := by
 unfold toCanon
 by_cases h : placeR n old < 0
 ·rw [if_pos h]; rw [Qam] at h; rw [h]
 ·rw [if_neg h]; rw [Qam] at h
  cases hp : placeI n old 0 with
  | none => exact absurd hp h
  | some j => rfl
mutual
theorem QiO : ∀ (t : Ty) (old : List Int), allTy goodB t = true → varsL (preTy t) old = (chTy toCanon t old).2
 | .mk k n s l b, old, h => by
   simp only [allTy, Bool.and_eq_true] at h
   have hv : varsL (preTy (.mk k n s l b)) old = varsL (preTys l) (bif decide (k = 1) && decide (placeR n old < 0) then old ++ [n] else old) := rfl
   rw [hv]
   simp only [chTy]
   by_cases hk : k = 1
   ·obtain ⟨h0, rfl, rfl⟩ := Qc8 h.1 hk
    simp only [decide_eq_true hk, cond_true, Bool.true_and, preTys, varsL, Q8L]
    by_cases hp : placeR n old < 0
    ·simp [hp]
    ·simp [hp]
   ·simp only [decide_eq_false hk, cond_false, Bool.false_and, QcA l old h.2]
theorem QcA : ∀ (l : List Ty) (old : List Int), allTys goodB l = true → varsL (preTys l) old = (chTys toCanon l old).2
 | [], old, _ => by simp only [preTys, varsL, chTys]
 | t :: l, old, h => by
   simp only [allTys, Bool.and_eq_true] at h
   simp only [preTys, Qcz, chTys, QiO t old h.1, QcA l _ h.2]
end
def Ext (a b : List Int) : Prop := ∃ c, b = a ++ c
theorem Ext.refl (a : List Int) : Ext a a := ⟨[], by simp⟩
theorem Ext.trans {a b c : List Int} (h : Ext a b) (g : Ext b c) : Ext a c := by
 obtain ⟨x, rfl⟩ := h; obtain ⟨y, rfl⟩ := g; exact ⟨x ++ y, by simp⟩
theorem Qal {n : Int} {i j : Nat} : ∀ {a c : List Int}, placeI n a i = some j → placeI n (a ++ c) i = some j := by
 intro a
 induction a generalizing i with
 | nil => intro c h; cases h
 | cons m a ih =>
   intro c h
   simp only [List.cons_append, placeI] at h ⊢
   split at h
   ·rename_i e; rw [if_pos e]; exact h
   ·rename_i e; rw [if_neg e]; exact ih h
theorem Qf1 (n : Int) (old : List Int) : Ext old (toCanon n old).2 := by
 rw [Q8L]; split
 ·exact ⟨_, rfl⟩
 ·exact .refl _
mutual
theorem QeE : ∀ (t : Ty) (old : List Int), Ext old (chTy toCanon t old).2
 | .mk k n s l b, old => by
   simp only [chTy]
   cases decide (k = 1) with
   | true => exact Qf1 n old
   | false => exact Q4u l old
theorem Q4u : ∀ (l : List Ty) (old : List Int), Ext old (chTys toCanon l old).2
 | [], old => .refl _
 | t :: l, old => by simp only [chTys]; exact (QeE t old).trans (Q4u l _)
end
theorem Qgf {n : Int} {old fin : List Int} (h : Ext (toCanon n old).2 fin) : (toCanon n old).1 = tvar (placeR n fin) ∧ ∃ j, placeI n fin 0 = some j := by
 obtain ⟨c, rfl⟩ := h
 unfold toCanon placeR
 cases hp : placeI n old 0 with
 | some j =>
   simp only []
   have := Qal (c := c) hp
   rw [this]; exact ⟨rfl, j, rfl⟩
 | none =>
   simp only []
   have h1 : placeI n (old ++ [n]) 0 = some old.length := by
    rw [show placeI n (old ++ [n]) 0 = _ from placeI_app' n n old 0, hp]; simp
   have := Qal (c := c) h1
   rw [this]; exact ⟨rfl, _, rfl⟩
where
 placeI_app' (n m : Int) : ∀ (l : List Int) (i : Nat), placeI n (l ++ [m]) i = match placeI n l i with | some j => some j | none => if n = m then some (i + l.length) else none
 | [], i => by simp [placeI]
 | a :: l, i => by
   simp only [List.cons_append, placeI, placeI_app' n m l (i + 1), List.length_cons]
   by_cases h : n = a
   ·simp [h]
   ·simp only [h, if_false]
    rw [show i + 1 + l.length = i + (l.length + 1) by omega]
mutual
theorem QjM : ∀ (t : Ty) (old fin : List Int), Ext (chTy toCanon t old).2 fin → renR fin t = (chTy toCanon t old).1
 | .mk k n s l b, old, fin, h => by
   simp only [chTy] at h ⊢
   simp only [renR]
   cases hk : decide (k = 1) with
   | true => rw [hk] at h; simp only [cond_true] at h ⊢; exact (Qgf h).1.symm
   | false => rw [hk] at h; simp only [cond_false] at h ⊢; rw [Qec l old fin h]
theorem Qec : ∀ (l : List Ty) (old fin : List Int), Ext (chTys toCanon l old).2 fin → renRs fin l = (chTys toCanon l old).1
 | [], old, fin, _ => by simp only [renRs, chTys]
 | t :: l, old, fin, h => by
   simp only [chTys] at h ⊢
   simp only [renRs]
   rw [QjM t old fin ((Q4u l _).trans h), Qec l _ fin h]
end
section
variable {σ : Type} (to : Int → σ → Ty × σ) (B : Nat)
mutual
theorem QgN (h : ∀ n st, (to n st).1.size ≤ B) (hB : 1 ≤ B) : ∀ (t : Ty) (st : σ), (chTy to t st).1.size ≤ t.size * B
 | .mk k n s l b, st => by
   simp only [chTy, Ty.size, Nat.add_mul, Nat.one_mul]
   have h1 := h n st
   have h2 := Q9F h hB l st
   cases decide (k = 1) with
   | true => simp only [cond_true]; omega
   | false => simp only [cond_false, Ty.size]; omega
theorem Q9F (h : ∀ n st, (to n st).1.size ≤ B) (hB : 1 ≤ B) : ∀ (l : List Ty) (st : σ), Ty.sizes (chTys to l st).1 ≤ Ty.sizes l * B
 | [], st => by simp only [chTys, Ty.sizes]; omega
 | t :: l, st => by
   have h1 := QgN h hB t st
   have h2 := Q9F h hB l (chTy to t st).2
   simp only [chTys, Ty.sizes, Nat.add_mul]; omega
end
end
end Go.Am
namespace Go.Proofs.YtoahliipbclneaaGreat
open Go Go.Am
set_option linter.unusedVariables false
structure Place where
 name : Str
 data : Str
 tag : Int
 of_ : Int
 has : Bool
 vars : Int
 ty : Ty
 deriving Inhabited
namespace Place
def cells (p : Place) : List AV := .str p.name :: .str p.data :: .int .i64 p.tag :: .int .i64 p.of_ :: .bool p.has :: .int .i64 p.vars :: p.ty.cells
abbrev enc (p : Place) : AV := .agg p.cells
theorem cells_eq (p : Place) : p.cells = [.str p.name, .str p.data, .int .i64 p.tag, .int .i64 p.of_, .bool p.has, .int .i64 p.vars, .int .i64 p.ty.kind, .int .i64 p.ty.n, .str p.ty.name, encS p.ty.nl (p.ty.args.map Ty.enc)] := by rw [cells, Ty.cells_eq]
theorem cells_len (p : Place) : p.cells.length = 10 := by rw [cells_eq]; rfl
def zero : Place := ⟨[], [], 0, 0, false, 0, .zero⟩
end Place
def sInt : Str := [105, 110, 116]
def sBool : Str := [98, 111, 111, 108]
def sUnit : Str := [117, 110, 105, 116]
def sExn : Str := [101, 120, 110]
def sRef : Str := [114, 101, 102]
def sArrow : Str := [45, 62]
def sStar : Str := [42]
def known0 : Str → Option Int := upd (upd (upd (upd (upd (upd (upd (fun _ => none) sInt (-1)) sBool (-1)) sUnit (-1)) sExn (-1)) sRef (-1)) sArrow (-1)) sStar (-1)
def knownStep (g : Str → Option Int) (p : Place) : Str → Option Int := match g p.data with | none => upd g p.data p.vars | some _ => g
def knownD (t : List Place) : Str → Option Int := t.foldl knownStep known0
mutual
def wrongD (g : Str → Option Int) (params : Int) : Ty → Int × Str
 | .mk k n nm l b => if k = 1 then (if n ≥ params then (16, []) else (0, [])) else match g nm with
   | none => (8, nm)
   | some m => if m ≥ 0 ∧ m ≠ (l.length : Int) then (19, nm) else wrongsD g params l
def wrongsD (g : Str → Option Int) (params : Int) : List Ty → Int × Str
 | [] => (0, [])
 | t :: l => if (wrongD g params t).1 ≠ 0 then wrongD g params t else wrongsD g params l
end
def placeD (nm data : Str) (tag of_ : Int) : Place := ⟨nm, data, tag, of_, false, 0, ofTy data []⟩
def startD : List Place := [placeD [40, 41] sUnit 0 1, placeD [102, 97, 108, 115, 101] sBool 0 2, placeD [116, 114, 117, 101] sBool 1 2, placeD [68, 105, 118] sExn 0 0, placeD [69, 111, 102] sExn 1 0, placeD [77, 97, 116, 99, 104] sExn 2 0]
def findD (nm : Str) : List Place → Option Place
 | [] => none
 | p :: l => if p.name = nm then some p else findD nm l
def foundD (o : Option Place) : AV := match o with | some p => .tup [p.enc, .bool true] | none => .tup [Place.zero.enc, .bool false]
def varsTy (n : Nat) : List Ty := (List.range n).map fun i : Nat => tvar (i : Int)
def headD (d : Dec) : Ty × Int := bif decide (d.kind = 4) then (ofTy sExn [], 0) else (ofTy d.name (varsTy d.params.toNat), d.params)
def conBad (k : Int) (g : Str → Option Int) (vars tag : Int) (met : List Str) (c : Con) : Int × Str :=
 if c.name ∈ met then (9, c.name) else bif decide (k = 4) && decide (tag > 1023) then (19, c.name) else bif c.has then (if (wrongD g vars c.arg).1 ≠ 0 then wrongD g vars c.arg else (0, c.name)) else (0, c.name)
def conPlace (res : Ty) (vars : Int) (data : Str) (tag of_ : Int) (c : Con) : Place := ⟨c.name, data, tag, of_, c.has, vars, bif c.has then fnTy c.arg res else putTy res []⟩
def consD (k : Int) (g : Str → Option Int) (res : Ty) (vars : Int) (data : Str) (of_ : Int) : List Con → List Str → Int → List Place → List Place × TBad
 | [], _, _, out => (out, .zero)
 | c :: l, met, tag, out => if (conBad k g vars tag met c).1 ≠ 0 then ([], ⟨(conBad k g vars tag met c).1, c.at_, (conBad k g vars tag met c).2⟩) else
   consD k g res vars data of_ l (met ++ [c.name]) (tag + 1) (out ++ [conPlace res vars data tag of_ c])
def exns (t : List Place) : Nat := (t.filter fun p => decide (p.data = sExn)).length
def addD (t : List Place) (d : Dec) : List Place × TBad :=
 bif decide (d.kind = 3) then (bif (knownD t d.name).isSome then ([], ⟨9, d.at_, d.name⟩) else consD 3 (upd (knownD t) d.name d.params) (headD d).1 (headD d).2 d.name d.cons.length d.cons (t.map Place.name) 0 t)
 else bif decide (d.kind = 4) then consD 4 (knownD t) (headD d).1 (headD d).2 sExn 0 d.cons (t.map Place.name) (exns t) t
 else (t, .zero)
def ofD : List Dec → List Place → List Place × TBad
 | [], t => (t, .zero)
 | d :: l, t => if (addD t d).2.kind ≠ 0 then ([], (addD t d).2) else ofD l (addD t d).1
end Go.Proofs.YtoahliipbclneaaGreat
namespace Go.Proofs.YtoahliipbclneaaGreat
open Go Go.Am
set_option linter.unusedVariables false
set_option maxRecDepth 4000
theorem Zt (nm data : Str) (tag of_ : Int) (s : St) : Ret (cw (.f Zn) [.str nm, .str data, .int .i64 tag, .int .i64 of_] s) s (placeD nm data tag of_).enc := by
 obtain ⟨s1, e1, g1⟩ := Q4m data [] .nils rfl (by simp) (by simp) s
 refine ⟨s1, ?_, g1⟩
 rw [QcM]
 simp only [go_sem, Ty.enc, ofTy, List.map_nil, Ty.cells_mk] at e1
 simp only [go_sem, Nat.reduceAdd, Nat.reduceLeDiff, e1, Place.enc, Place.cells, placeD, ofTy, List.map_nil, Ty.cells_mk]
theorem Q2H (s : St) : ∃ s', cw (.f Q1u) [] s = some (.ret (.full (startD.map Place.enc)), s') ∧ Grew s s' := by
 obtain ⟨s1, e1, g1⟩ := Zt [40, 41] sUnit 0 1 s
 obtain ⟨s2, e2, g2⟩ := Zt [102, 97, 108, 115, 101] sBool 0 2 s1
 obtain ⟨s3, e3, g3⟩ := Zt [116, 114, 117, 101] sBool 1 2 s2
 obtain ⟨s4, e4, g4⟩ := Zt [68, 105, 118] sExn 0 0 s3
 obtain ⟨s5, e5, g5⟩ := Zt [69, 111, 102] sExn 1 0 s4
 obtain ⟨s6, e6, g6⟩ := Zt [77, 97, 116, 99, 104] sExn 2 0 s5
 refine ⟨s6, ?_, ((((g1.trans g2).trans g3).trans g4).trans g5).trans g6⟩
 rw [QcJ]
 simp only [sUnit, sBool, sExn] at e1 e2 e3 e4 e5 e6
 simp only [go_sem, e1, e2, e3, e4, e5, e6, Place.enc, Place.cells_len, startD, sUnit, sBool, sExn, List.map_cons, List.map_nil]
theorem Q5Q (nm : Str) (t : List Place) (hl : t.length < 2^40) (hw : ∀ p ∈ t, WideTy p.ty) (z : List Slot) (hz : z.length = 10) (y : Slot) (hy : y.list? = some (t.map Place.enc)) : ∀ (suf pre : List Place) (s : St) (i : Nat), pre ++ suf = t → i = pre.length →
  Ret (Q1x (.val (.str nm)) z y (.val (.int .i64 t.length)) (.val (.int .i64 i)) s) s (foundD (findD nm suf))
 | [], pre, s, i, h, hi => by
   subst hi
   rw [Q5a]; simp only [go_sem, Nat.reduceAdd, Nat.reduceLeDiff, Q9 (by simpa using h), hz]
   exact Ret.same _ _
 | p :: suf, pre, s, i, h, hi => by
   subst hi
   obtain ⟨f1, f2, f3⟩ := Q8 hy h (by omega) (Place.cells_len p) (by decide)
   obtain ⟨s1, e1, g1⟩ := Q2I _ p.ty (Nat.le_refl _) (hw p (by rw [← h]; simp)) s
   have ih := Q5Q nm t hl hw z hz y hy suf (pre ++ [p]) s (pre.length + 1) (by simpa using h) (by simp)
   rw [Q5a]
   simp only [Ty.enc, Ty.cells_eq] at e1
   simp only [go_sem, Nat.reduceAdd, Nat.reduceLeDiff, f1, f2, f3, Place.cells_eq] at ih ⊢
   simp only [go_sem, Nat.reduceAdd, Nat.reduceLeDiff, e1, hz, findD]
   by_cases hn : p.name = nm
   ·simp only [go_sem, hn, if_true, foundD, Place.enc, Place.cells_eq]
    exact ⟨s1, rfl, g1⟩
   ·simp only [go_sem, hn]
    exact ih
theorem Q3g (nm : Str) (t : List Place) (hl : t.length < 2^40) (hw : ∀ p ∈ t, WideTy p.ty) (v : AV) (hv : (Slot.val v).list? = some (t.map Place.enc)) (s : St) : Ret (cw (.f Q1g) [v, .str nm] s) s (foundD (findD nm t)) := by
 have e1 := Q5Q nm t hl hw ([.val (.str []), .val (.str []), .val (.int .i64 0), .val (.int .i64 0), .val (.bool false), .val (.int .i64 0), .val (.int .i64 0), .val (.int .i64 0), .val (.str []), .val .nils]) rfl (.val v) hv t [] s 0 rfl rfl
 rw [show ((0 : Nat) : Int) = 0 from rfl] at e1
 rw [Qdq]
 simp only [go_sem, hv, List.length_map] at e1 ⊢
 exact e1
theorem placeAcc {s0 s : St} {x : Slot} {l : List Place} (h : AccR Q6 s0 s x (l.map Place.enc)) (p : Place) (hl : l.length < 2^29) :
  ∃ x' s', appendS Q6 (C.ti Q6) s x (.full [p.enc]) = some (x', s') ∧ AccR Q6 s0 s' x' ((l ++ [p]).map Place.enc) :=
 AccR.appendF (B := [p]) h rfl (fun a => by rw [Q2D]; exact Place.cells_len a) (by rw [Q2D]; decide) (by simp only [List.length_singleton]; omega) (by rw [Q6D]; decide)
theorem Q4A (t : List Place) (hl : t.length < 2^28) (hw : ∀ p ∈ t, WideTy p.ty) (y : Slot) (hy : y.list? = some (t.map Place.enc)) (s0 : St) : ∀ (suf pre : List Place) (x : Slot) (s : St) (i : Nat), AccR Q6 s0 s x (pre.map Place.enc) → pre ++ suf = t → i = pre.length →
  RetA (Q0E x y (.val (.int .i64 t.length)) (.val (.int .i64 i)) s) Q6 s0 (t.map Place.enc)
 | [], pre, x, s, i, ha, h, hi => by
   subst hi
   rw [Q3Q]; simp only [go_sem, Q9 (by simpa using h)]
   have : pre = t := by simpa using h
   subst this
   exact ⟨x, s, rfl, ha⟩
 | p :: suf, pre, x, s, i, ha, h, hi => by
   subst hi
   obtain ⟨f1, f2, f3⟩ := Q8 hy h (by omega) (Place.cells_len p) (by decide)
   obtain ⟨s1, e1, g1⟩ := Q2I _ p.ty (Nat.le_refl _) (hw p (by rw [← h]; simp)) s
   have hlen : pre.length < t.length := by rw [← h]; simp
   obtain ⟨x2, s2, e2, a2⟩ := placeAcc (ha.move g1) p (by omega)
   have ih := Q4A t hl hw y hy s0 suf (pre ++ [p]) x2 s2 (pre.length + 1) a2 (by simpa using h) (by simp)
   rw [Q3Q]
   simp only [Ty.enc, Ty.cells_eq] at e1
   simp only [Place.enc, Place.cells_eq] at e2
   simp only [go_sem, Nat.reduceAdd, Nat.reduceLeDiff, f1, f2, f3, Place.cells_eq] at ih ⊢
   simp only [go_sem, Nat.reduceAdd, Nat.reduceLeDiff, e1, e2]
   exact ih
theorem Q91 (t : List Place) (hl : t.length < 2^28) (hw : ∀ p ∈ t, WideTy p.ty) (v : AV) (hv : (Slot.val v).list? = some (t.map Place.enc)) (s : St) : RetA (cw (.f Q27) [v] s) Q6 s (t.map Place.enc) := by
 obtain ⟨x, s1, e1, a1⟩ := Qim Q6 (C.ti Q6) s (t.length : Int) (by omega) (by omega) (by rw [Q6D]; decide) (by rw [Q2D]; decide) Place.zero.enc (by rw [Qdd]; exact Q3p Q8e (by rw [Q2D]; rfl))
 have e2 := Q4A t hl hw (.val v) hv s t [] x s1 0 a1 rfl rfl
 rw [show ((0 : Nat) : Int) = 0 from rfl] at e2
 rw [Qb9]
 simp only [go_sem, hv, List.length_map, e1] at e2 ⊢
 exact e2
end Go.Proofs.YtoahliipbclneaaGreat
namespace Go.Proofs.YtoahliipbclneaaGreat
open Go Go.Am
set_option linter.unusedVariables false
set_option maxRecDepth 4000
def MapSI (s : St) (loc : Nat) (g : Str → Option Int) : Prop := ∃ es c D, s.locs[loc]? = some (.map es c) ∧ MapIs (fun k : Str => AV.str k) (fun n : Int => AV.int .i64 n) g es c D
theorem MapSI.new (s : St) : MapSI (s.addLoc (.map [] 0)) s.locs.length (fun _ => none) := ⟨[], 0, [], Q57 _ _, .nil⟩
theorem MapSI.lt {s : St} {loc : Nat} {g : Str → Option Int} (h : MapSI s loc g) : loc < s.locs.length := by
 obtain ⟨es, c, D, h1, -⟩ := h
 exact (List.getElem?_eq_some_iff.1 h1).1
theorem MapSI.move {s s' : St} {loc : Nat} {g : Str → Option Int} (h : MapSI s loc g) (k : Grew s s') : MapSI s' loc g := by
 obtain ⟨es, c, D, h1, h2⟩ := h
 exact ⟨es, c, D, k.loc h1, h2⟩
theorem MapSI.moves {A h1 h2 : List Nat} {s s' : St} {loc : Nat} {g : Str → Option Int} (h : MapSI s loc g) (m : Moves A h1 h2 s s') (hn : loc ∉ A) : MapSI s' loc g := by
 obtain ⟨es, c, D, e1, e2⟩ := h
 exact ⟨es, c, D, m.loc e1 hn, e2⟩
theorem Qdg : (C.ti Q1).zeroV = some (.int .i64 0) := QhF QfJ QgC QfL
theorem MapSI.get {s : St} {loc : Nat} {g : Str → Option Int} (h : MapSI s loc g) (k : Str) : lookupS (C.ti Q2) (C.ti Q1) s (.val (.mp loc)) (.val (.str k)) false = some (.val (.int .i64 ((g k).getD 0))) := by
 obtain ⟨es, c, D, h1, h2⟩ := h
 have := Q8t h2 keyStr k (kt := C.ti Q2) (et := C.ti Q1) (Q7r Qw k) h1 Qdg false
 rw [this]
 cases g k <;> rfl
theorem MapSI.get2 {s : St} {loc : Nat} {g : Str → Option Int} (h : MapSI s loc g) (k : Str) : lookupS (C.ti Q2) (C.ti Q1) s (.val (.mp loc)) (.val (.str k)) true = some (.val (.tup [.int .i64 ((g k).getD 0), .bool (g k).isSome])) := by
 obtain ⟨es, c, D, h1, h2⟩ := h
 have := Q8t h2 keyStr k (kt := C.ti Q2) (et := C.ti Q1) (Q7r Qw k) h1 Qdg true
 rw [this]
 cases g k <;> rfl
theorem MapSI.set {s : St} {loc : Nat} {g : Str → Option Int} (h : MapSI s loc g) (k : Str) (v : Int) :
  ∃ s', updateS (C.ti Q2) (C.ti Q1) s (.val (.mp loc)) (.val (.str k)) (.val (.int .i64 v)) = some (.no, s') ∧ MapSI s' loc (upd g k v) ∧ (∀ hs, Moves [loc] hs hs s s') ∧ s'.toks = s.toks ∧ s'.locs.length = s.locs.length := by
 obtain ⟨es, c, D, h1, h2⟩ := h
 obtain ⟨es', c', D', e1, e2⟩ := Qf5 h2 keyStr (kt := C.ti Q2) (et := C.ti Q1) k (Q7r Qw k) h1 (x := .val (.int .i64 v)) (v := v) rfl (by rw [QfK]; rfl)
 exact ⟨_, e1, ⟨es', c', D', Qly h1, e2⟩, fun hs => (Moves.refl [loc] hs s).setLoc (.inl (by simp)) _, rfl, by simp⟩
end Go.Proofs.YtoahliipbclneaaGreat
namespace Go.Proofs.YtoahliipbclneaaGreat
open Go Go.Am
set_option linter.unusedVariables false
set_option maxRecDepth 4000
theorem MapSI.setNew {s0 s : St} {loc : Nat} {g : Str → Option Int} (h : MapSI s loc g) (m : Moves [] [] [] s0 s) (hl : s0.locs.length ≤ loc) (k : Str) (v : Int) :
  ∃ s', updateS (C.ti Q2) (C.ti Q1) s (.val (.mp loc)) (.val (.str k)) (.val (.int .i64 v)) = some (.no, s') ∧ MapSI s' loc (upd g k v) ∧ Moves [] [] [] s0 s' := by
 obtain ⟨s', e1, h1, m1, -⟩ := h.set k v
 exact ⟨s', e1, h1, m.since (m1 []) (fun i hi => by simp at hi; subst hi; exact .inr hl) (by simp)⟩
theorem Q2J (t : List Place) (hl : t.length < 2^28) (y : Slot) (hy : y.list? = some (t.map Place.enc)) (s0 : St) (loc : Nat) (hloc : s0.locs.length ≤ loc) : ∀ (suf pre : List Place) (g : Str → Option Int) (s : St) (i : Nat), Moves [] [] [] s0 s → MapSI s loc g → pre ++ suf = t → i = pre.length →
  ∃ s', Q04 (.val (.mp loc)) y (.val (.int .i64 t.length)) (.val (.int .i64 i)) s = some (.ret (.val (.mp loc)), s') ∧ MapSI s' loc (suf.foldl knownStep g) ∧ Grew s0 s'
 | [], pre, g, s, i, hm, hs, h, hi => by
   subst hi
   rw [Q4C]; simp only [go_sem, Q9 (by simpa using h)]
   exact ⟨s, rfl, hs, hm.toGrew⟩
 | p :: suf, pre, g, s, i, hm, hs, h, hi => by
   subst hi
   obtain ⟨f1, f2, f3⟩ := Q8 hy h (by omega) (Place.cells_len p) (by decide)
   rw [Q4C]
   cases hg : g p.data with
   | none =>
     obtain ⟨s1, e1, h1, m1⟩ := hs.setNew hm hloc p.data p.vars
     obtain ⟨s2, e2, h2, m2⟩ := Q2J t hl y hy s0 loc hloc suf (pre ++ [p]) (upd g p.data p.vars) s1 (pre.length + 1) m1 h1 (by simpa using h) (by simp)
     have g1 := hs.get2 p.data
     rw [hg] at g1
     simp only [go_sem, Nat.reduceAdd, Nat.reduceLeDiff, f1, f2, f3, Place.cells_eq, List.foldl_cons, knownStep, hg] at e2 ⊢
     simp only [go_sem, g1, e1, Option.getD_none, Option.isSome_none, Bool.not_false]
     exact ⟨s2, e2, h2, m2⟩
   | some n =>
     obtain ⟨s2, e2, h2, m2⟩ := Q2J t hl y hy s0 loc hloc suf (pre ++ [p]) g s (pre.length + 1) hm hs (by simpa using h) (by simp)
     have g1 := hs.get2 p.data
     rw [hg] at g1
     simp only [go_sem, Nat.reduceAdd, Nat.reduceLeDiff, f1, f2, f3, Place.cells_eq, List.foldl_cons, knownStep, hg] at e2 ⊢
     simp only [go_sem, g1, Option.getD_some, Option.isSome_some, Bool.not_true]
     exact ⟨s2, e2, h2, m2⟩
theorem Q9M (t : List Place) (hl : t.length < 2^28) (v : AV) (hv : (Slot.val v).list? = some (t.map Place.enc)) (s : St) :
  ∃ s', cw (.f Q2r) [v] s = some (.ret (.val (.mp s.locs.length)), s') ∧ MapSI s' s.locs.length (knownD t) ∧ Grew s s' := by
 have m0 : Moves [] [] [] s (s.addLoc (.map [] 0)) := (Moves.refl _ _ s).addLoc _
 obtain ⟨s1, e1, h1, m1⟩ := (MapSI.new s).setNew m0 (Nat.le_refl _) sInt (-1)
 obtain ⟨s2, e2, h2, m2⟩ := h1.setNew m1 (Nat.le_refl _) sBool (-1)
 obtain ⟨s3, e3, h3, m3⟩ := h2.setNew m2 (Nat.le_refl _) sUnit (-1)
 obtain ⟨s4, e4, h4, m4⟩ := h3.setNew m3 (Nat.le_refl _) sExn (-1)
 obtain ⟨s5, e5, h5, m5⟩ := h4.setNew m4 (Nat.le_refl _) sRef (-1)
 obtain ⟨s6, e6, h6, m6⟩ := h5.setNew m5 (Nat.le_refl _) sArrow (-1)
 obtain ⟨s7, e7, h7, m7⟩ := h6.setNew m6 (Nat.le_refl _) sStar (-1)
 obtain ⟨s8, e8, h8, m8⟩ := Q2J t hl (.val v) hv s s.locs.length (Nat.le_refl _) t [] known0 s7 0 m7 h7 rfl rfl
 refine ⟨s8, ?_, h8, m8⟩
 rw [show ((0 : Nat) : Int) = 0 from rfl] at e8
 simp only [sInt, sBool, sUnit, sExn, sRef, sArrow, sStar] at e1 e2 e3 e4 e5 e6 e7
 rw [QcL]
 simp only [go_sem, Int.reduceNeg, e1, e2, e3, e4, e5, e6, e7, hv, List.length_map] at e8 ⊢
 exact e8
def wrFn (params : Int) (mloc me : Nat) : AV := .fn Q0v [.cp [.int .i64 params], .cp [.mp mloc], .vp me 0]
structure WrAt (s : St) (g : Str → Option Int) (params : Int) (mloc me : Nat) : Prop where
 map : MapSI s mloc g
 fn : s.locs[me]? = some (.var [.val (wrFn params mloc me)])
theorem WrAt.move {s s' : St} {g : Str → Option Int} {params : Int} {mloc me : Nat} (h : WrAt s g params mloc me) (k : Grew s s') : WrAt s' g params mloc me := ⟨h.map.move k, k.loc h.fn⟩
def WrOK (g : Str → Option Int) (params : Int) (mloc me : Nat) (t : Ty) : Prop := ∀ s, WrAt s g params mloc me → cw (.f Q0v) [t.enc, .cp [.int .i64 params], .cp [.mp mloc], .vp me 0] s = some (.ret (.val (.tup [.int .i64 (wrongD g params t).1, .str (wrongD g params t).2])), s)
theorem Q5d (g : Str → Option Int) (params : Int) (mloc me : Nat) (l : List Ty) (hl : l.length < 2^28) (y : Slot) (hy : y.list? = some (l.map Ty.enc)) (s : St) (hs : WrAt s g params mloc me) : ∀ (suf pre : List Ty) (i : Nat), pre ++ suf = l → i = pre.length → (∀ t ∈ suf, WrOK g params mloc me t) →
  Q0d (.val (.vp me 0)) y (.val (.int .i64 l.length)) (.val (.int .i64 i)) s = some (.ret (.val (.tup [.int .i64 (wrongsD g params suf).1, .str (wrongsD g params suf).2])), s)
 | [], pre, i, h, hi, H => by
   subst hi
   rw [Q3t]; simp only [go_sem, Q9 (by simpa using h), wrongsD]
 | t :: suf, pre, i, h, hi, H => by
   subst hi
   obtain ⟨f1, f2, f3⟩ := Q8 hy h (by omega) (Ty.cells_len t) (by decide)
   have e1 := H t List.mem_cons_self s hs
   have ih := Q5d g params mloc me l hl y hy s hs suf (pre ++ [t]) (pre.length + 1) (by simpa using h) (by simp) (fun w hw => H w (List.mem_cons_of_mem _ hw))
   have f4 : ∀ t : TI, ldV t false s (.val (.vp me 0)) = ofSlots t (([.val (wrFn params mloc me)] : List Slot).take t.size) := fun t => Q7v hs.fn
   rw [Q3t]
   simp only [go_sem, Nat.reduceAdd, Nat.reduceLeDiff, ne_eq, f1, f2, f3, f4, wrFn, wrongsD, e1] at ih ⊢
   by_cases hn : (wrongD g params t).1 = 0
   ·simp only [go_sem, hn, ih, not_true_eq_false, if_false]
   ·simp only [go_sem, not_false_eq_true, hn, if_true]
theorem Q3R (g : Str → Option Int) (params : Int) (mloc me : Nat) : ∀ (k : Nat) (t : Ty), t.size ≤ k → WideTy t → WrOK g params mloc me t
 | 0, .mk _ _ _ _ _, h, _ => by simp only [Ty.size] at h; omega
 | k + 1, .mk kd n nm l nl, h, h' => fun s hs => by
   simp only [Ty.size] at h
   have hl := h'.len
   have e1 := Q5d g params mloc me l hl (.val (encS nl (l.map Ty.enc))) (Qf _ _) s hs l [] 0 rfl rfl (fun t ht => by
    have := Ty.mem_sizes ht
    exact Q3R g params mloc me k t (by omega) (h'.arg ht))
   rw [show ((0 : Nat) : Int) = 0 from rfl] at e1
   have g1 := hs.map.get2 nm
   rw [Q9N]
   by_cases hk : kd = 1
   ·subst hk
    simp only [go_sem, Nat.reduceAdd, Nat.reduceLeDiff, ne_eq, Ty.enc, wrongD, if_true]
    by_cases hn : n ≥ params
    ·simp only [go_sem, hn, if_true, decide_true]
    ·simp only [go_sem, hn, if_false, decide_false]
   ·cases hg : g nm with
    | none =>
      rw [hg] at g1
      simp only [go_sem, Nat.reduceAdd, Nat.reduceLeDiff, Ty.enc, wrongD, hk, hg, g1, if_false, decide_false, Option.isSome_none, Bool.not_false]
    | some m =>
      rw [hg] at g1
      simp only [go_sem, Nat.reduceAdd, Nat.reduceLeDiff, ne_eq, Ty.enc, wrongD, hk, hg, g1, if_false, decide_false, Option.isSome_some, Bool.not_true, Option.getD_some, List.length_map]
      by_cases h1 : m ≥ 0
      ·by_cases h2 : m = (l.length : Int)
       ·simp only [go_sem, not_false_eq_true, h1, h2, e1]
        simp
       ·simp only [go_sem, not_false_eq_true, h1, h2, e1]
        simp
      ·simp only [go_sem, h1, e1]
       simp
theorem Q9O (g : Str → Option Int) (params : Int) (t : Ty) (hw : WideTy t) (mloc : Nat) (s : St) (hs : MapSI s mloc g) : ∃ s', cw (.f Q4r) [.mp mloc, .int .i64 params, t.enc] s = some (.ret (.val (.tup [.int .i64 (wrongD g params t).1, .str (wrongD g params t).2])), s') ∧ Grew s s' := by
 have hg : Grew s (s.addLoc (.var [.val (wrFn params mloc s.locs.length)])) := (Grew.refl s).addLoc _
 have hf : (s.addLoc (.var [.val (wrFn params mloc s.locs.length)])).locs[s.locs.length]? = some (.var [.val (wrFn params mloc s.locs.length)]) := Q57 _ _
 have e1 := Q3R g params mloc s.locs.length _ t (Nat.le_refl _) hw _ ⟨hs.move hg, hf⟩
 have f4 : ∀ t : TI, ldV t false (s.addLoc (.var [.val (wrFn params mloc s.locs.length)])) (.val (.vp s.locs.length 0)) = ofSlots t (([.val (wrFn params mloc s.locs.length)] : List Slot).take t.size) := fun t => Q7v hf
 refine ⟨_, ?_, hg⟩
 rw [QcN]
 simp only [Ty.enc, wrFn] at e1 f4
 simp only [go_sem, Nat.reduceAdd, Nat.reduceLeDiff, Ty.enc, f4, e1, wrFn]
end Go.Proofs.YtoahliipbclneaaGreat
namespace Go.Proofs.YtoahliipbclneaaGreat
open Go Go.Am
set_option linter.unusedVariables false
structure ScI (σ : Type) where
 con : Str → Int → Int → σ → σ
 free : Str → Int → σ → σ
 fail : Int → Int → Str → σ → σ
 stop : σ → Bool
def addS (out : List Str) (s : Str) : List Str := if s ∈ out then out else out ++ [s]
def varsCases : List Case → List Str
 | [] => []
 | .mk p _ :: l => varsPat p ++ varsCases l
def namesOf (k : Int) (c : List Case) (f : List Fun) : List Str := (bif decide (k = 1) then varsCases c else bif decide (k = 2) then f.map Fun.name else []).foldl addS []
section
variable {σ : Type} (I : ScI σ)
mutual
def scPat : Pat → List Str × σ → List Str × σ
 | .mk k a nm _ l _, st => scPats l (bif decide (k = 2) || decide (k = 6) then (st.1 ++ [nm], if nm ∈ st.1 then I.fail 9 a nm st.2 else st.2) else bif decide (k = 4) then (st.1, I.con nm a l.length st.2) else st)
def scPats : List Pat → List Str × σ → List Str × σ
 | [], st => st
 | p :: l, st => scPats l (scPat p st)
end
def scVar (k a : Int) (nm : Str) (kids : Nat) (bd : List Str) (st : σ) : σ :=
 bif decide (k = 2) then (if nm ∈ bd then st else I.free nm a st) else bif decide (k = 3) then I.con nm a kids st else st
mutual
def scCase : Case → List Str → σ → σ
 | .mk p e, bd, st => scExp e (varsPat p ++ bd) (scPat I p ([], st)).2
def scExp : Exp → List Str → σ → σ
 | .mk k a nm _ l _ c _ d _, bd, st => bif I.stop st then st else
   scCases c (scDecs d bd (scVar I k a nm l.length bd st)).1 (scExps l (scDecs d bd (scVar I k a nm l.length bd st)).1 (scDecs d bd (scVar I k a nm l.length bd st)).2)
def scExps : List Exp → List Str → σ → σ
 | [], _, st => st
 | e :: l, bd, st => scExps l bd (scExp e bd st)
def scCases : List Case → List Str → σ → σ
 | [], _, st => st
 | c :: l, bd, st => scCases l bd (scCase c bd st)
def scDecs : List Dec → List Str → σ → List Str × σ
 | [], bd, st => (bd, st)
 | d :: r, bd, st => scDecs r (scDec d bd st).1 (scDec d bd st).2
def scDec : Dec → List Str → σ → List Str × σ
 | .mk k _ _ _ _ _ c _ f _, bd, st => bif decide (k = 1) then (namesOf k c f ++ bd, scVals c bd st) else bif decide (k = 2) then (namesOf k c f ++ bd, scFuns f (namesOf k c f ++ bd) [] st) else (bd, st)
def scVals : List Case → List Str → σ → σ
 | [], _, st => st
 | .mk p e :: r, bd, st => scVals r bd (scExp e bd (scPat I p ([], st)).2)
def scFuns : List Fun → List Str → List Str → σ → σ
 | [], _, _, st => st
 | .mk nm a c :: r, bd, had, st => scFuns r bd (had ++ [nm]) (scCase c bd (if nm ∈ had then I.fail 9 a nm st else st))
end
end
end Go.Proofs.YtoahliipbclneaaGreat
namespace Go.Proofs.YtoahliipbclneaaGreat
open Go Go.Am
set_option linter.unusedVariables false
set_option maxRecDepth 4000
theorem _root_.Go.Am.Moves.next {A B h0 h h' : List Nat} {s0 s s' : St} (m : Moves A h0 h s0 s) (c : Moves B h h' s s') (hB : ∀ i ∈ B, i ∈ A ∨ s0.locs.length ≤ i) : Moves A h0 h' s0 s' where
 tl := Nat.le_trans m.tl c.tl
 tk := fun k hk hn => by
  have := m.tl
  rw [c.tk k (by omega) (fun hm => (m.new k hm).elim hn (fun h => by omega)), m.tk k hk hn]
 new := fun k hk => (c.new k hk).elim (m.new k) (fun h => .inr (Nat.le_trans m.tl h))
 ll := Nat.le_trans m.ll c.ll
 lk := fun i hi hn => by
  have := m.ll
  rw [c.lk i (by omega) (fun hm => (hB i hm).elim hn (fun h => by omega)), m.lk i hi hn]
def KN (s : St) (loc : Nat) (bd : List Str) : Prop := ∃ g, MapSI s loc g ∧ ∀ k, (g k).getD 0 = (bd.count k : Int)
theorem KN.new (s : St) : KN (s.addLoc (.map [] 0)) s.locs.length [] := ⟨_, MapSI.new s, fun k => by simp⟩
theorem KN.lt {s : St} {loc : Nat} {bd : List Str} (h : KN s loc bd) : loc < s.locs.length := by obtain ⟨g, h1, -⟩ := h; exact h1.lt
theorem KN.at {s s' : St} {loc : Nat} {bd : List Str} (h : KN s loc bd) (e : s'.locs[loc]? = s.locs[loc]?) : KN s' loc bd := by
 obtain ⟨g, ⟨es, c, D, h1, h2⟩, h3⟩ := h
 exact ⟨g, ⟨es, c, D, by rw [e]; exact h1, h2⟩, h3⟩
theorem KN.moves {A h1 h2 : List Nat} {s s' : St} {loc : Nat} {bd : List Str} (h : KN s loc bd) (m : Moves A h1 h2 s s') (hn : loc ∉ A) : KN s' loc bd := h.at (m.lk loc h.lt hn)
theorem KN.get {s : St} {loc : Nat} {bd : List Str} (h : KN s loc bd) (k : Str) : lookupS (C.ti Q2) (C.ti Q1) s (.val (.mp loc)) (.val (.str k)) false = some (.val (.int .i64 (bd.count k : Nat))) := by
 obtain ⟨g, h1, h2⟩ := h
 rw [h1.get k, h2]
theorem KN.set {s : St} {loc : Nat} {bd bd' : List Str} (h : KN s loc bd) (k : Str) (n : Int) (hn : n = (bd'.count k : Nat)) (ho : ∀ k', k' ≠ k → bd'.count k' = bd.count k') :
  ∃ s', updateS (C.ti Q2) (C.ti Q1) s (.val (.mp loc)) (.val (.str k)) (.val (.int .i64 n)) = some (.no, s') ∧ KN s' loc bd' ∧ (∀ hs, Moves [loc] hs hs s s') ∧ s'.toks = s.toks ∧ s'.locs.length = s.locs.length := by
 obtain ⟨g, h1, h2⟩ := h
 obtain ⟨s', e1, h3, h4, h5, h6⟩ := h1.set k n
 refine ⟨s', e1, ⟨_, h3, fun k' => ?_⟩, h4, h5, h6⟩
 by_cases e : k' = k
 ·subst e; rw [Qem]; exact hn
 ·rw [Qel _ _ e, h2, ho k' e]
theorem Q54 {n : Nat} (h : n < 2^62) : IntKind.i64.wrap ((n : Int) + 1) = ((n + 1 : Nat) : Int) := by rw [wrap64 (by omega) (by omega)]; rfl
theorem QiR {n : Nat} (h : n < 2^62) : IntKind.i64.wrap (((n + 1 : Nat) : Int) - 1) = (n : Int) := by rw [wrap64 (by omega) (by omega)]; omega
theorem KN.inc {s : St} {loc : Nat} {bd : List Str} (h : KN s loc bd) (k : Str) (hl : bd.length < 2^62) :
  ∃ s', updateS (C.ti Q2) (C.ti Q1) s (.val (.mp loc)) (.val (.str k)) (.val (.int .i64 (IntKind.i64.wrap ((bd.count k : Nat) + 1)))) = some (.no, s') ∧ KN s' loc (bd ++ [k]) ∧ (∀ hs, Moves [loc] hs hs s s') ∧ s'.toks = s.toks ∧ s'.locs.length = s.locs.length := by
 have := List.count_le_length (a := k) (l := bd)
 refine h.set k _ ?_ fun k' hk => ?_
 ·rw [Q54 (by omega)]; simp
 ·have : [k].count k' = 0 := List.count_eq_zero.2 (by simpa using hk)
  rw [List.count_append, this]; rfl
section
variable {σ : Type}
structure RW (R : Nat → σ → List Nat → St → Prop) (kl : Nat) (n : Nat) (st : σ) (bd : List Str) (h : List Nat) (s : St) : Prop where
 r : R n st h s
 kn : KN s kl bd
 few : bd.length + n < 2^40
variable {I : ScI σ} {wl kl : Nat} {A : List Nat} {cf : FuncId} {cc : List AV} {ff : FuncId} {fc : List AV} {R : Nat → σ → List Nat → St → Prop}
end
end Go.Proofs.YtoahliipbclneaaGreat
namespace Go.Proofs.YtoahliipbclneaaGreat
open Go Go.Am
set_option linter.unusedVariables false
set_option maxRecDepth 4000
theorem Q8Q (n : Nat) : ∀ t ∈ varsTy n, WideTy t := by
 intro t ht
 obtain ⟨i, _, rfl⟩ := List.mem_map.1 ht
 exact QcB _
theorem Q5R (d : Dec) (hp : d.params < 2^28) (s0 : St) : ∀ (k i : Nat) (x : Slot) (s : St), AccH Q4 s0.toks.length [] s x ((varsTy i).map Ty.enc) → Moves [] [] [] s0 s → i + k = d.params.toNat →
  Ret (Q0F (d.cells.map .val) (Ty.zero.cells.map .val) x (.val (.int .i64 d.params)) (.val (.int .i64 i)) s) s0 (.tup [(ofTy d.name (varsTy d.params.toNat)).enc, .int .i64 d.params])
 | 0, i, x, s, a, m, h => by
   have hi : i = d.params.toNat := by omega
   have hd : decide ((i : Int) < d.params) = false := by simp only [decide_eq_false_iff_not]; omega
   rw [Q5c]
   have hav := a.av
   obtain ⟨s1, e1, g1⟩ := Q4m d.name (varsTy i) (encS true ((varsTy i).map Ty.enc)) (Qf _ _) (by simp only [varsTy, List.length_map, List.length_range]; omega) (Q8Q i) s
   subst hi
   simp only [Ty.enc, Ty.cells_eq] at e1
   simp only [go_sem, Nat.reduceAdd, Nat.reduceLeDiff, hd, Dec.cells_eq, List.map_cons, List.map_nil, ZS hav, e1, Ty.enc, Ty.cells_eq]
   exact ⟨s1, rfl, m.toGrew.trans g1⟩
 | k + 1, i, x, s, a, m, h => by
   have hd : decide ((i : Int) < d.params) = true := by simp only [decide_eq_true_eq]; omega
   obtain ⟨x2, s2, e2, a2, m2, -, -, -⟩ := tyAcc (B := [tvar (i : Int)]) a m (by simp) (y := .full [(tvar (i : Int)).enc]) rfl (by simp only [varsTy, List.length_map, List.length_range, List.length_singleton]; omega)
   have hv : varsTy i ++ [tvar (i : Int)] = varsTy (i + 1) := by simp [varsTy, List.range_succ]
   rw [hv] at a2
   have ih := Q5R d hp s0 k (i + 1) x2 s2 a2 m2 (by omega)
   rw [Q5c]
   simp only [tvar, Ty.enc, Ty.cells_mk, List.map_nil, Q4E] at e2
   simp only [go_sem, Nat.reduceAdd, Nat.reduceLeDiff, hd, e2, Q54 (show i < 2^62 by omega)]
   exact ih
theorem Qba (d : Dec) (hp : d.params < 2^28) (s : St) : Ret (cw (.f Q1T) [d.enc] s) s (.tup [(headD d).1.enc, .int .i64 (headD d).2]) := by
 rw [Q4B]
 by_cases h4 : d.kind = 4
 ·obtain ⟨s1, e1, g1⟩ := Q4m sExn [] .nils rfl (by simp) (by simp) s
  refine ⟨s1, ?_, g1⟩
  simp only [sExn, Ty.enc, Ty.cells_eq] at e1
  simp only [go_sem, Nat.reduceAdd, Nat.reduceLeDiff, Dec.enc, Dec.cells_eq, List.map_cons, List.map_nil, h4, decide_true, sExn, e1, headD, cond_true, Ty.enc, Ty.cells_eq]
 ·have e1 := Q5R d hp s d.params.toNat 0 (.val .nils) s (AccH.nil _ _ _ _) (.refl _ _ _) (by omega)
  rw [show ((0 : Nat) : Int) = 0 from rfl] at e1
  have e0 : cw (.f Q1T) [d.enc] s = Q0F (d.cells.map .val) (Ty.zero.cells.map .val) (.val .nils) (.val (.int .i64 d.params)) (.val (.int .i64 0)) s := by
   rw [Q4B]
   simp only [go_sem, Nat.reduceAdd, Dec.enc, Dec.cells_eq, List.map_cons, List.map_nil, decide_eq_false h4, Ty.zero]
  rw [← Q4B, e0]
  simpa only [headD, decide_eq_false h4, cond_false] using e1
theorem AccR.kset {e : TypeId} {s0 s s' : St} {x : Slot} {l : List AV} {ml : Nat} (a : AccR e s0 s x l) (m : ∀ hs, Moves [ml] hs hs s s') (t : s'.toks = s.toks) (h : s0.locs.length ≤ ml) : AccR e s0 s' x l :=
 a.relay t ((Moves.grew [] [] a.grew).since (m []) (fun i hi => by simp at hi; subst hi; exact .inr h) (by simp)).toGrew.1
def RetT (r : Res) (s0 : St) (o : List Place × TBad) : Prop := ∃ s' w, r = some (.ret (.val (.tup [w, o.2.enc])), s') ∧ (Slot.val w).list? = some (o.1.map Place.enc) ∧ Grew s0 s'
theorem QjS {a b : Ty} (ha : WideTy a) (hb : WideTy b) : WideTy (fnTy a b) := by
 unfold fnTy ofTy
 refine Q4q (by simp) fun t ht => ?_
 simp only [List.map_cons, List.map_nil, List.mem_cons, List.not_mem_nil, or_false] at ht
 rcases ht with rfl | rfl
 ·exact Q52 _ ha
 ·exact Q52 _ hb
def zb : List Slot := [.val (.int .i64 0), .val (.int .i64 0), .val (.str [])]
theorem Q9L (b : TBad) (hb : b.kind ≠ 0) (x6 : Slot) (s : St) : Q1l zb x6 (b.cells.map .val) s = some (.ret (.val (.tup [.nils, b.enc])), s) := by
 rw [Q5N]
 simp only [go_sem, Nat.reduceAdd, Nat.reduceLeDiff, TBad.cells, List.map_cons, List.map_nil, zb, decide_eq_false hb, Bool.not_false]
 rfl
theorem Qb8 (x6 : Slot) (v : AV) (hv : x6.av = some v) (s : St) : Q1l zb x6 zb s = some (.ret (.val (.tup [v, TBad.zero.enc])), s) := by
 rw [Q5N]
 simp only [go_sem, Nat.reduceAdd, Nat.reduceLeDiff, TBad.cells, TBad.zero, zb, Q76 hv]
 rfl
section
variable (d : Dec) (g : Str → Option Int) (res : Ty) (vars : Int) (data : Str) (of_ : Int) (tl ml : Nat) (s0 : St)
noncomputable abbrev addL1 (x : Slot) (tag : Int) (i : Nat) (s : St) : Res := Q1W (d.cells.map .val) zb x (.val (.mp tl)) (.val (.mp ml)) (.val (.int .i64 tag)) (.val (.int .i64 of_)) (.val (.str data)) (res.cells.map .val) (.val (.int .i64 vars)) zb (.val (encS d.nb (d.cons.map Con.enc))) (.val (.int .i64 d.cons.length)) (.val (.int .i64 i)) s
noncomputable abbrev addJ1 (c : Con) (e : Int) (nm : Str) (x : Slot) (tag : Int) (i : Nat) (s : St) : Res := ZH (d.cells.map .val) zb x (.val (.mp tl)) (.val (.mp ml)) (.val (.int .i64 tag)) (.val (.int .i64 of_)) (.val (.str data)) (res.cells.map .val) (.val (.int .i64 vars)) zb (c.cells.map .val) (.val (.int .i64 e)) (.val (.str nm)) (.val (encS d.nb (d.cons.map Con.enc))) (.val (.int .i64 d.cons.length)) (.val (.int .i64 i)) s
structure AddAt (s : St) (x : Slot) (met : List Str) (out : List Place) : Prop where
 acc : AccR Q6 s0 s x (out.map Place.enc)
 map : MapSI s tl g
 kn : KN s ml met
variable {g tl ml s0}
theorem MapSI.at {s s' : St} {loc : Nat} {g : Str → Option Int} (h : MapSI s loc g) (e : s'.locs = s.locs) : MapSI s' loc g := by
 obtain ⟨es, c, D, h1, h2⟩ := h
 exact ⟨es, c, D, by rw [e]; exact h1, h2⟩
theorem AddAt.move {s s' : St} {x : Slot} {met : List Str} {out : List Place} (h : AddAt g tl ml s0 s x met out) (k : Grew s s') : AddAt g tl ml s0 s' x met out := ⟨h.acc.move k, h.map.move k, h.kn.moves (Moves.grew [] [] k) (by simp)⟩
theorem Q9K (c : Con) (e : Int) (he : e ≠ 0) (nm : Str) (x : Slot) (tag : Int) (i : Nat) (s : St) : addJ1 d res vars data of_ tl ml c e nm x tag i s = some (.ret (.val (.tup [.nils, (⟨e, c.at_, nm⟩ : TBad).enc])), s) := by
 have e1 := Q9L ⟨e, c.at_, nm⟩ he x s
 simp only [TBad.cells, List.map_cons, List.map_nil] at e1
 rw [← e1, addJ1, Q3f]
 simp only [go_sem, Nat.reduceAdd, Nat.reduceLeDiff, Con.cells, Ty.cells_eq, TBad.cells, List.map_cons, List.map_nil, zb, decide_eq_false he, Bool.not_false]
theorem Qb7 (hr : WideTy res) (hne : ml ≠ tl) (h1 : s0.locs.length ≤ tl) (h2 : s0.locs.length ≤ ml) (c : Con) (hc : WideTy c.arg) (nm : Str) (x : Slot) (tag : Int) (i : Nat) (s : St) (met : List Str) (out : List Place) (a : AddAt g tl ml s0 s x met out) (ho : out.length < 2^28) (hm : met.length < 2^40) (ht0 : 0 ≤ tag) (ht : tag < 2^40) (hi : i < 2^40) :
  ∃ x' s', addJ1 d res vars data of_ tl ml c 0 nm x tag i s = addL1 d res vars data of_ tl ml x' (tag + 1) (i + 1) s' ∧ AddAt g tl ml s0 s' x' (met ++ [c.name]) (out ++ [conPlace res vars data tag of_ c]) := by
 obtain ⟨s1, e1, k1, m1, t1, -⟩ := a.kn.inc c.name (by omega)
 have a1 : AddAt g tl ml s0 s1 x (met ++ [c.name]) out := ⟨AccR.kset a.acc m1 t1 h2, a.map.moves (m1 []) (by simpa using Ne.symm hne), k1⟩
 obtain ⟨s2, e2, g2⟩ := Qf4 res [] true s1 hr (by simp) (by simp)
 have a2 := a1.move g2
 have w1 : IntKind.i64.wrap (tag + 1) = tag + 1 := wrap64 (by omega) (by omega)
 have w2 := Q54 (show i < 2^62 by omega)
 have gk := a.kn.get c.name
 simp only [List.map_nil, Q4E] at e2
 cases hh : c.has with
 | true =>
   obtain ⟨s3, e3, g3⟩ := Qgg c.arg res s2 hc hr
   have a3 := a2.move g3
   obtain ⟨x', s4, e4, r4⟩ := placeAcc a3.acc (conPlace res vars data tag of_ c) (by omega)
   refine ⟨x', s4, ?_, ⟨r4, ?_, ?_⟩⟩
   ·rw [addJ1, Q3f]
    simp only [Ty.enc, Ty.cells_eq] at e2 e3
    simp only [Place.enc, Place.cells_eq, conPlace, hh, cond_true] at e4
    simp only [go_sem, Nat.reduceAdd, Nat.reduceLeDiff, Con.cells, Ty.cells_eq, List.map_cons, List.map_nil, hh, gk, e1, e2, e3]
    rw [Q5O]
    simp only [go_sem, Nat.reduceAdd, Nat.reduceLeDiff, hh, e4, w1, w2]
    simp only [addL1, Ty.cells_eq, List.map_cons, List.map_nil]
   ·exact a3.map.at (Q2E e4)
   ·exact a3.kn.at (by rw [Q2E e4])
 | false =>
   obtain ⟨x', s4, e4, r4⟩ := placeAcc a2.acc (conPlace res vars data tag of_ c) (by omega)
   refine ⟨x', s4, ?_, ⟨r4, a2.map.at (Q2E e4), a2.kn.at (by rw [Q2E e4])⟩⟩
   rw [addJ1, Q3f]
   simp only [Ty.enc, Ty.cells_eq] at e2
   simp only [Place.enc, Place.cells_eq, conPlace, hh, cond_false] at e4
   simp only [go_sem, Nat.reduceAdd, Nat.reduceLeDiff, Con.cells, Ty.cells_eq, List.map_cons, List.map_nil, hh, gk, e1, e2]
   rw [Q5O]
   simp only [go_sem, Nat.reduceAdd, Nat.reduceLeDiff, hh, e4, w1, w2]
   simp only [addL1, Ty.cells_eq, List.map_cons, List.map_nil]
theorem Q4x (hr : WideTy res) (hne : ml ≠ tl) (h1 : s0.locs.length ≤ tl) (h2 : s0.locs.length ≤ ml) (hl : d.cons.length < 2^26) (hw : ∀ c ∈ d.cons, WideTy c.arg) : ∀ (suf pre : List Con) (met : List Str) (tag : Int) (out : List Place) (x : Slot) (s : St) (i : Nat), pre ++ suf = d.cons → i = pre.length → AddAt g tl ml s0 s x met out → out.length + suf.length < 2^28 → met.length + suf.length < 2^40 → 0 ≤ tag → tag + suf.length < 2^40 →
  RetT (addL1 d res vars data of_ tl ml x tag i s) s0 (consD d.kind g res vars data of_ suf met tag out)
 | [], pre, met, tag, out, x, s, i, hp, hi, a, ho, hm, ht0, ht => by
   subst hi
   obtain ⟨nl, hav⟩ := a.acc.av
   refine ⟨s, _, ?_, Qf nl _, a.acc.grew⟩
   rw [addL1, ZN]; simp only [go_sem, Q9 (by simpa using hp), Qb8 x _ hav]
   rfl
 | c :: suf, pre, met, tag, out, x, s, i, hp, hi, a, ho, hm, ht0, ht => by
   subst hi
   obtain ⟨f1, f2, f3⟩ := Q8 (x := .val (encS d.nb (d.cons.map Con.enc))) (Qf _ _) hp (by omega) (Con.cells_len c) (by decide)
   have hlt : pre.length < d.cons.length := by rw [← hp]; simp
   have hcm : c ∈ d.cons := by rw [← hp]; simp
   simp only [List.length_cons] at ho hm ht
   have gk := a.kn.get c.name
   have hcnt : decide (((met.count c.name : Nat) : Int) > 0) = decide (c.name ∈ met) := by
    rw [decide_eq_decide]
    constructor
    ·intro h; exact List.count_pos_iff.1 (by omega)
    ·intro h; have := List.count_pos_iff.2 h; omega
   have bad : ∀ e nm s', e ≠ 0 → Grew s0 s' → conBad d.kind g vars tag met c = (e, nm) → addL1 d res vars data of_ tl ml x tag pre.length s = addJ1 d res vars data of_ tl ml c e nm x tag pre.length s' → RetT (addL1 d res vars data of_ tl ml x tag pre.length s) s0 (consD d.kind g res vars data of_ (c :: suf) met tag out) := fun e nm s' he hg hc hq => by
    refine ⟨s', .nils, ?_, ?_, hg⟩
    ·rw [hq, Q9K _ _ _ _ _ _ _ he]
     simp only [consD, hc]; rw [if_pos he]
    ·simp only [consD, hc]; rw [if_pos he]; rfl
   have good : ∀ nm s', AddAt g tl ml s0 s' x met out → (conBad d.kind g vars tag met c).1 = 0 → addL1 d res vars data of_ tl ml x tag pre.length s = addJ1 d res vars data of_ tl ml c 0 nm x tag pre.length s' → RetT (addL1 d res vars data of_ tl ml x tag pre.length s) s0 (consD d.kind g res vars data of_ (c :: suf) met tag out) := fun nm s' ha hc hq => by
    obtain ⟨x', s2, e2, a2⟩ := Qb7 d res vars data of_ hr hne h1 h2 c (hw c hcm) nm x tag pre.length s' met out ha (by omega) (by omega) ht0 (by omega) (by omega)
    have ih := Q4x hr hne h1 h2 hl hw suf (pre ++ [c]) (met ++ [c.name]) (tag + 1) (out ++ [conPlace res vars data tag of_ c]) x' s2 (pre.length + 1) (by simpa using hp) (by simp) a2 (by simp only [List.length_append, List.length_cons, List.length_nil]; omega) (by simp only [List.length_append, List.length_cons, List.length_nil]; omega) (by omega) (by omega)
    rw [hq, e2]
    simp only [consD]; rw [if_neg (by simpa using hc)]
    exact ih
   by_cases hmem : c.name ∈ met
   ·refine bad 9 c.name s (by decide) a.acc.grew (by simp only [conBad, hmem, if_true]) ?_
    rw [addL1, ZN]
    simp only [go_sem, Nat.reduceAdd, Nat.reduceLeDiff, addJ1, f1, f2, Con.cells, Ty.cells_eq, List.map_cons, List.map_nil, gk, hcnt, hmem, decide_true]
   ·cases hx : (decide (d.kind = 4) && decide (tag > 1023)) with
    | true =>
      refine bad 19 c.name s (by decide) a.acc.grew (by simp only [conBad, hmem, if_false, hx, cond_true]) ?_
      rw [addL1, ZN]
      simp only [go_sem, Nat.reduceAdd, Nat.reduceLeDiff, addJ1, f1, f2, Con.cells, Ty.cells_eq, Dec.cells_eq, List.map_cons, List.map_nil, gk, hcnt, hmem, decide_false, hx]
    | false =>
      cases hh : c.has with
      | true =>
        obtain ⟨s1, e1, g1⟩ := Q9O g vars c.arg (hw c hcm) tl s a.map
        have e1' := e1
        simp only [Ty.enc, Ty.cells_eq] at e1'
        by_cases hz : (wrongD g vars c.arg).1 = 0
        ·refine good c.name s1 (a.move g1) (by simp only [conBad, hmem, if_false, hx, cond_false, hh, cond_true, hz, ne_eq, not_true_eq_false, if_false]) ?_
         rw [addL1, ZN]
         simp only [go_sem, Nat.reduceAdd, Nat.reduceLeDiff, addJ1, f1, f2, Con.cells, Ty.cells_eq, Dec.cells_eq, List.map_cons, List.map_nil, gk, hcnt, hmem, decide_false, hx, hh, e1', hz, decide_true, Bool.not_true]
        ·refine bad (wrongD g vars c.arg).1 (wrongD g vars c.arg).2 s1 hz (a.acc.grew.trans g1) (by simp only [conBad, hmem, if_false, hx, cond_false, hh, cond_true, hz, ne_eq, not_false_eq_true, if_true]) ?_
         rw [addL1, ZN]
         simp only [go_sem, Nat.reduceAdd, Nat.reduceLeDiff, addJ1, f1, f2, Con.cells, Ty.cells_eq, Dec.cells_eq, List.map_cons, List.map_nil, gk, hcnt, hmem, decide_false, hx, hh, e1', decide_eq_false hz, Bool.not_false]
      | false =>
        refine good c.name s a (by simp only [conBad, hmem, if_false, hx, cond_false, hh]) ?_
        rw [addL1, ZN]
        simp only [go_sem, Nat.reduceAdd, Nat.reduceLeDiff, addJ1, f1, f2, Con.cells, Ty.cells_eq, Dec.cells_eq, List.map_cons, List.map_nil, gk, hcnt, hmem, decide_false, hx, hh]
end
end Go.Proofs.YtoahliipbclneaaGreat
namespace Go.Proofs.YtoahliipbclneaaGreat
open Go Go.Am
set_option linter.unusedVariables false
set_option maxRecDepth 4000
theorem Q6g (d : Dec) (h : d.params < 2^28) : WideTy (headD d).1 := by
 unfold headD
 cases decide (d.kind = 4) with
 | true => exact Q4q (by simp) (by simp)
 | false =>
   refine Q4q (by simp only [List.length_map, varsTy, List.length_range]; omega) fun t ht => ?_
   obtain ⟨u, hu, rfl⟩ := List.mem_map.1 ht
   exact Q52 _ (Q8Q _ u hu)
section
variable (d : Dec) (t : List Place) {tl ml : Nat} {s0 : St}
theorem Q4v (g : Str → Option Int) (data : Str) (of_ : Int) (hp : d.params < 2^28) (hne : ml ≠ tl) (h1 : s0.locs.length ≤ tl) (h2 : s0.locs.length ≤ ml) (hl : d.cons.length < 2^26) (hw : ∀ c ∈ d.cons, WideTy c.arg) (met : List Str) (tag : Int) (out : List Place) (x : Slot) (s : St) (a : AddAt g tl ml s0 s x met out) (ho : out.length < 2^27) (hm : met.length < 2^27) (ht0 : 0 ≤ tag) (ht : tag < 2^30) :
  RetT (Q1k (d.cells.map .val) zb x (.val (.mp tl)) (.val (.mp ml)) (.val (.int .i64 tag)) (.val (.int .i64 of_)) (.val (.str data)) s) s0 (consD d.kind g (headD d).1 (headD d).2 data of_ d.cons met tag out) := by
 obtain ⟨s1, e1, g1⟩ := Qba d hp s
 have e2 := Q4x d (headD d).1 (headD d).2 data of_ (Q6g d hp) hne h1 h2 hl hw d.cons [] met tag out x s1 0 rfl rfl (a.move g1) (by omega) (by omega) ht0 (by omega)
 have e3 : Q1k (d.cells.map .val) zb x (.val (.mp tl)) (.val (.mp ml)) (.val (.int .i64 tag)) (.val (.int .i64 of_)) (.val (.str data)) s = addL1 d (headD d).1 (headD d).2 data of_ tl ml x tag 0 s1 := by
  rw [Qb6]
  simp only [Dec.enc, Dec.cells_eq, Ty.enc, Ty.cells_eq] at e1
  simp only [go_sem, Nat.reduceAdd, Nat.reduceLeDiff, addL1, Dec.cells_eq, Ty.cells_eq, List.map_cons, List.map_nil, e1, List.length_map, zb]
  rfl
 rw [e3]
 exact e2
def tagOf (d : Dec) (l : List Place) : Nat := bif decide (d.kind = 4) then exns l else 0
theorem Qdx (a b : List Place) : exns (a ++ b) = exns a + exns b := by simp [exns]
theorem Qfj (a : List Place) : exns a ≤ a.length := List.length_filter_le _ _
theorem Q4w (hp : d.params < 2^28) (hne : ml ≠ tl) (h1 : s0.locs.length ≤ tl) (h2 : s0.locs.length ≤ ml) (hl : d.cons.length < 2^26) (hw : ∀ c ∈ d.cons, WideTy c.arg) (htl : t.length < 2^26) (y : Slot) (hy : y.list? = some (t.map Place.enc)) (x : Slot) : ∀ (suf pre : List Place) (s : St) (i : Nat), pre ++ suf = t → i = pre.length → AddAt (knownD t) tl ml s0 s x (pre.map Place.name) t →
  RetT (Q0n (d.cells.map .val) zb x (.val (.mp tl)) (.val (.mp ml)) (.val (.int .i64 (tagOf d pre : Nat))) (.val (.int .i64 d.cons.length)) y (.val (.int .i64 t.length)) (.val (.int .i64 i)) s) s0 (addD t d)
 | [], pre, s, i, h, hi, a => by
   subst hi
   have hpt : pre = t := by simpa using h
   subst hpt
   have hx := Qfj pre
   rw [Q5P]
   by_cases h3 : d.kind = 3
   ·have hk4 : d.kind ≠ 4 := by omega
    have gk := a.map.get2 d.name
    cases hg : knownD pre d.name with
    | some v =>
      rw [hg] at gk
      refine ⟨s, .nils, ?_, ?_, a.acc.grew⟩
      ·simp only [go_sem, Int.reduceEq, Nat.reduceAdd, Nat.reduceLeDiff, Q9 rfl, Dec.cells_eq, List.map_cons, List.map_nil, h3, decide_true, gk, Option.getD_some, Option.isSome_some, zb, addD, cond_true, hg, TBad.enc, TBad.cells]
      ·simp only [addD, h3, decide_true, cond_true, hg, Option.isSome_some]; rfl
    | none =>
      rw [hg] at gk
      obtain ⟨s1, e1, h4, m1, t1, l1⟩ := a.map.set d.name d.params
      have a1 : AddAt (upd (knownD pre) d.name d.params) tl ml s0 s1 x (pre.map Place.name) pre := ⟨AccR.kset a.acc m1 t1 h1, h4, a.kn.moves (m1 []) (by simpa using hne)⟩
      have e2 := Q4v d (upd (knownD pre) d.name d.params) d.name d.cons.length hp hne h1 h2 hl hw (pre.map Place.name) 0 pre x s1 a1 (by omega) (by rw [List.length_map]; omega) (by omega) (by omega)
      have : addD pre d = consD d.kind (upd (knownD pre) d.name d.params) (headD d).1 (headD d).2 d.name d.cons.length d.cons (pre.map Place.name) 0 pre := by
       simp only [addD, h3, decide_true, cond_true, hg, Option.isSome_none, cond_false]
      rw [this]
      simp only [Dec.cells_eq, List.map_cons, List.map_nil] at e2
      simp only [go_sem, Int.reduceAdd, Int.reduceEq, Nat.reduceAdd, Nat.reduceLeDiff, Q9 rfl, Dec.cells_eq, List.map_cons, List.map_nil, h3, decide_true, gk, Option.getD_none, Option.isSome_none, e1, tagOf, Int.reduceEq, decide_false, cond_false, Int.natCast_zero]
      simp only [h3] at e2
      exact e2
   ·by_cases h4 : d.kind = 4
    ·have e2 := Q4v d (knownD pre) sExn 0 hp hne h1 h2 hl hw (pre.map Place.name) (exns pre : Nat) pre x s a (by omega) (by rw [List.length_map]; omega) (by omega) (by omega)
     have : addD pre d = consD d.kind (knownD pre) (headD d).1 (headD d).2 sExn 0 d.cons (pre.map Place.name) (exns pre : Nat) pre := by
      simp only [addD, h4, Int.reduceEq, decide_false, decide_true, cond_true, cond_false]
     rw [this]
     simp only [Dec.cells_eq, List.map_cons, List.map_nil] at e2
     simp only [h4, sExn] at e2
     simp only [go_sem, Int.reduceEq, Nat.reduceAdd, Nat.reduceLeDiff, Q9 rfl, Dec.cells_eq, List.map_cons, List.map_nil, h4, Int.reduceEq, decide_false, decide_true, tagOf, cond_true, sExn]
     exact e2
    ·obtain ⟨nl, hav⟩ := a.acc.av
     refine ⟨s, encS nl (pre.map Place.enc), ?_, ?_, a.acc.grew⟩
     rotate_left
     ·simp only [addD, decide_eq_false h3, decide_eq_false h4, cond_false]; exact Qf nl _
     ·simp only [go_sem, Nat.reduceAdd, Nat.reduceLeDiff, Q9 rfl, Dec.cells_eq, List.map_cons, List.map_nil, decide_eq_false h3, decide_eq_false h4, zb, Q76 hav, addD, cond_false, TBad.zero]
      rfl
 | p :: suf, pre, s, i, h, hi, a => by
   subst hi
   obtain ⟨f1, f2, f3⟩ := Q8 hy h (by omega) (Place.cells_len p) (by decide)
   have hlt : pre.length < t.length := by rw [← h]; simp
   have hx := Qfj pre
   obtain ⟨s1, e1, k1, m1, t1, -⟩ := a.kn.inc p.name (by rw [List.length_map]; omega)
   have a1 : AddAt (knownD t) tl ml s0 s1 x ((pre ++ [p]).map Place.name) t := ⟨AccR.kset a.acc m1 t1 h2, a.map.moves (m1 []) (by simpa using Ne.symm hne), by simpa using k1⟩
   have ih := Q4w hp hne h1 h2 hl hw htl y hy x suf (pre ++ [p]) s1 (pre.length + 1) (by simpa using h) (by simp) a1
   have gk := a.kn.get p.name
   have hT : IntKind.i64.wrap ((exns pre : Nat) + 1) = ((exns pre + 1 : Nat) : Int) := Q54 (by omega)
   rw [Q5P]
   by_cases h4 : d.kind = 4
   ·by_cases hd : p.data = sExn
    ·have : tagOf d (pre ++ [p]) = exns pre + 1 := by simp [tagOf, h4, Qdx, exns, hd]
     rw [this] at ih
     have e0 : tagOf d pre = exns pre := by simp [tagOf, h4]
     rw [e0]
     simp only [Dec.cells_eq, List.map_cons, List.map_nil, h4] at ih
     simp only [sExn] at hd
     simp only [go_sem, Int.reduceEq, Nat.reduceAdd, Nat.reduceLeDiff, f1, f2, f3, Place.cells_eq, Dec.cells_eq, List.map_cons, List.map_nil, gk, e1, h4, decide_true, hd, hT]
     exact ih
    ·have : tagOf d (pre ++ [p]) = exns pre := by simp [tagOf, h4, Qdx, exns, hd]
     rw [this] at ih
     have e0 : tagOf d pre = exns pre := by simp [tagOf, h4]
     rw [e0]
     simp only [Dec.cells_eq, List.map_cons, List.map_nil, h4] at ih
     simp only [sExn] at hd
     simp only [go_sem, Int.reduceEq, Nat.reduceAdd, Nat.reduceLeDiff, f1, f2, f3, Place.cells_eq, Dec.cells_eq, List.map_cons, List.map_nil, gk, e1, h4, decide_true, decide_eq_false hd]
     exact ih
   ·have : tagOf d (pre ++ [p]) = tagOf d pre := by simp [tagOf, h4]
    rw [this] at ih
    simp only [Dec.cells_eq, List.map_cons, List.map_nil] at ih
    simp only [go_sem, Nat.reduceAdd, Nat.reduceLeDiff, f1, f2, f3, Place.cells_eq, Dec.cells_eq, List.map_cons, List.map_nil, gk, e1, decide_eq_false h4]
    exact ih
end
theorem Q3L (t : List Place) (d : Dec) (htl : t.length < 2^26) (hwt : ∀ p ∈ t, WideTy p.ty) (hp : d.params < 2^28) (hl : d.cons.length < 2^26) (hw : ∀ c ∈ d.cons, WideTy c.arg) (v : AV) (hv : (Slot.val v).list? = some (t.map Place.enc)) (s : St) : RetT (cw (.f Z1) [v, d.enc] s) s (addD t d) := by
 obtain ⟨x, s1, e1, a1⟩ := Q91 t (by omega) hwt v hv s
 obtain ⟨s2, e2, h2, g2⟩ := Q9M t (by omega) v hv s1
 have g3 : Grew s2 (s2.addLoc (.map [] 0)) := (Grew.refl _).addLoc _
 have e3 := Q4w d t (tl := s1.locs.length) (ml := s2.locs.length) (s0 := s) hp (by have := h2.lt; omega) a1.grew.locsLe (Nat.le_trans a1.grew.locsLe g2.locsLe) hl hw htl (.val v) hv x t [] (s2.addLoc (.map [] 0)) 0 rfl rfl ⟨(a1.move g2).move g3, h2.move g3, KN.new s2⟩
 have ht : tagOf d [] = 0 := by unfold tagOf; cases decide (d.kind = 4) <;> rfl
 rw [ht, show ((0 : Nat) : Int) = 0 from rfl] at e3
 have e4 : cw (.f Z1) [v, d.enc] s = Q0n (d.cells.map .val) zb x (.val (.mp s1.locs.length)) (.val (.mp s2.locs.length)) (.val (.int .i64 0)) (.val (.int .i64 d.cons.length)) (.val v) (.val (.int .i64 t.length)) (.val (.int .i64 0)) (s2.addLoc (.map [] 0)) := by
  rw [QeG]
  simp only [go_sem, Nat.reduceAdd, Dec.enc, Dec.cells_eq, List.map_cons, List.map_nil, e1, e2, hv, List.length_map, zb]
 rw [e4]
 exact e3
theorem Q7d (k : Int) (g : Str → Option Int) (res : Ty) (vars : Int) (data : Str) (of_ : Int) : ∀ (l : List Con) (met : List Str) (tag : Int) (out : List Place), (consD k g res vars data of_ l met tag out).1.length ≤ out.length + l.length
 | [], _, _, _ => Nat.le_refl _
 | c :: l, met, tag, out => by
   simp only [consD]
   split
   ·simp
   ·have := Q7d k g res vars data of_ l (met ++ [c.name]) (tag + 1) (out ++ [conPlace res vars data tag of_ c])
    simp only [List.length_append, List.length_cons, List.length_nil] at this ⊢
    omega
theorem Q6c (k : Int) (g : Str → Option Int) (res : Ty) (hr : WideTy res) (vars : Int) (data : Str) (of_ : Int) : ∀ (l : List Con) (met : List Str) (tag : Int) (out : List Place), (∀ c ∈ l, WideTy c.arg) → (∀ p ∈ out, WideTy p.ty) → ∀ p ∈ (consD k g res vars data of_ l met tag out).1, WideTy p.ty
 | [], _, _, _, _, h => h
 | c :: l, met, tag, out, hl, h => by
   simp only [consD]
   split
   ·simp
   ·refine Q6c k g res hr vars data of_ l _ _ _ (fun c hc => hl c (List.mem_cons_of_mem _ hc)) fun p hp => ?_
    rcases List.mem_append.1 hp with hp | hp
    ·exact h p hp
    ·simp only [List.mem_singleton] at hp
     subst hp
     simp only [conPlace]
     cases c.has with
     | true => exact QjS (hl c List.mem_cons_self) hr
     | false => exact QiP res [] hr (by simp)
theorem QhO (t : List Place) (d : Dec) : (addD t d).1.length ≤ t.length + d.cons.length := by
 unfold addD
 cases decide (d.kind = 3) with
 | true =>
   simp only [cond_true]
   cases (knownD t d.name).isSome with
   | true => simp
   | false => exact Q7d _ _ _ _ _ _ _ _ _ _
 | false =>
   simp only [cond_false]
   cases decide (d.kind = 4) with
   | true => exact Q7d _ _ _ _ _ _ _ _ _ _
   | false => simp
theorem QgD (t : List Place) (d : Dec) (hp : d.params < 2^28) (hl : ∀ c ∈ d.cons, WideTy c.arg) (h : ∀ p ∈ t, WideTy p.ty) : ∀ p ∈ (addD t d).1, WideTy p.ty := by
 unfold addD
 cases decide (d.kind = 3) with
 | true =>
   simp only [cond_true]
   cases (knownD t d.name).isSome with
   | true => simp
   | false => exact Q6c _ _ _ (Q6g d hp) _ _ _ _ _ _ _ hl h
 | false =>
   simp only [cond_false]
   cases decide (d.kind = 4) with
   | true => exact Q6c _ _ _ (Q6g d hp) _ _ _ _ _ _ _ hl h
   | false => exact h
def DecFit (d : Dec) : Prop := d.params < 2^28 ∧ ∀ c ∈ d.cons, WideTy c.arg
theorem Qf0 : ∀ p ∈ startD, WideTy p.ty := by
 intro p hp
 simp only [startD, List.mem_cons, List.not_mem_nil, or_false] at hp
 rcases hp with rfl | rfl | rfl | rfl | rfl | rfl <;> exact Q4q (by simp) (by simp)
def consOf : List Dec → Nat
 | [] => 0
 | d :: l => d.cons.length + consOf l
theorem QbQ : ∀ l : List Dec, consOf l ≤ Dec.sizes l
 | [] => Nat.zero_le _
 | .mk k a nm p l lb c cb f fb :: r => by
   have h1 := QbQ r
   have h2 := Con.len_sizes l
   simp only [consOf, Dec.sizes, Dec.size, Dec.cons]; omega
theorem Q7e (P : List Dec) (hP : P.length < 2^40) (y : Slot) (hy : y.list? = some (P.map Dec.enc)) (s0 : St) : ∀ (suf pre : List Dec) (t : List Place) (x : Slot) (v : AV) (s : St) (i : Nat), pre ++ suf = P → i = pre.length → (∀ d ∈ suf, DecFit d) → t.length + consOf suf < 2^26 → (∀ p ∈ t, WideTy p.ty) → x.av = some v → (Slot.val v).list? = some (t.map Place.enc) → Grew s0 s →
  RetT (Q2F zb x y (.val (.int .i64 P.length)) (.val (.int .i64 i)) s) s0 (ofD suf t)
 | [], pre, t, x, v, s, i, hp, hi, hF, hl, hw, hx, hv, g => by
   subst hi
   refine ⟨s, v, ?_, hv, g⟩
   rw [Q6F]; simp only [go_sem, Nat.reduceAdd, Nat.reduceLeDiff, Q9 (by simpa using hp), zb, Q76 hx]
   rfl
 | d :: suf, pre, t, x, v, s, i, hp, hi, hF, hl, hw, hx, hv, g => by
   subst hi
   obtain ⟨f1, f2, f3⟩ := Q8 hy hp (by omega) (Dec.cells_len d) (by decide)
   obtain ⟨hf1, hf2⟩ := hF d List.mem_cons_self
   simp only [consOf] at hl
   obtain ⟨s1, w, e1, hw1, g1⟩ := Q3L t d (by omega) hw hf1 (by omega) hf2 v hv s
   have hlen := QhO t d
   have ih := Q7e P hP y hy s0 suf (pre ++ [d]) (addD t d).1 (.val w) w s1 (pre.length + 1) (by simpa using hp) (by simp) (fun q hq => hF q (List.mem_cons_of_mem _ hq)) (by omega) (QgD t d hf1 hf2 hw) rfl hw1 (g.trans g1)
   rw [Q6F]
   simp only [Dec.enc, Dec.cells_eq] at e1
   simp only [ofD]
   by_cases hz : (addD t d).2.kind = 0
   ·rw [if_neg (by simpa using hz)]
    simp only [go_sem, Nat.reduceAdd, Nat.reduceLeDiff, f1, f2, f3, Dec.cells_eq, ZS hx, e1, TBad.enc, TBad.cells, List.map_cons, List.map_nil, hz, decide_true, Bool.not_true]
    exact ih
   ·rw [if_pos (by simpa using hz)]
    refine ⟨s1, .nils, ?_, rfl, g.trans g1⟩
    simp only [go_sem, Nat.reduceAdd, Nat.reduceLeDiff, f1, f2, f3, Dec.cells_eq, ZS hx, e1, TBad.enc, TBad.cells, List.map_cons, List.map_nil, decide_eq_false hz, Bool.not_false, zb]
theorem Qdr (P : List Dec) (nl : Bool) (hF : ∀ d ∈ P, DecFit d) (hs : Dec.sizes P < 2^25) (s : St) : RetT (cw (.f Q55) [encS nl (P.map Dec.enc)] s) s (ofD P startD) := by
 obtain ⟨s1, e1, g1⟩ := Q2H s
 have hl := Dec.len_sizes P
 have hc := QbQ P
 have e2 := Q7e P (by omega) (.val (encS nl (P.map Dec.enc))) (Qf _ _) s P [] startD (.full (startD.map Place.enc)) (.sl (startD.map Place.enc)) s1 0 rfl rfl hF (by simp only [startD, List.length_cons, List.length_nil]; omega) Qf0 rfl rfl g1
 rw [show ((0 : Nat) : Int) = 0 from rfl] at e2
 rw [QfT]
 simp only [go_sem, e1, List.length_map, zb] at e2 ⊢
 exact e2
end Go.Proofs.YtoahliipbclneaaGreat