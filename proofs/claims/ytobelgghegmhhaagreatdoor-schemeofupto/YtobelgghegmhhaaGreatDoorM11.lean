/- A part of the proof: SShow2, SShow3, SShow4, SLex2, SLex3, SLex4, SShow5. -/
import Derived.Test.YtobelgghegmhhaaGreatDoorM9
import Derived.Test.YtobelgghegmhhaaGreatDoorM10
import Derived.Lib.ItoaLen
set_option linter.unusedVariables false
set_option linter.unusedSimpArgs false
namespace Go.Proofs.YtobelgghegmhhaaGreatDoor
open Go Go.Am
set_option linter.unusedVariables false
set_option maxRecDepth 4000
theorem QiZ {L pre suf : List Str} {q s : Str} {x : Slot} (hx : x.list? = some (L.map AV.str)) (h : (pre ++ [q]) ++ s :: suf = L) : ixS 1 x (.val (.int .i64 (pre.length : Int))) = some (.val (.cp [.str q])) :=
 Q18 (v := .str q) hx (by rw [← h]; simp) rfl (by decide)
theorem Q5D (L : List Str) (v : AV) (hv : (Slot.val v).list? = some (L.map AV.str)) (hL : L.length < 2^40) (loc : Nat) (s0 : St) (hloc : s0.locs.length ≤ loc) : ∀ (suf pre : List Str) (bs : Str) (h : List Nat) (s : St) (i : Nat), BldIs s loc bs h → Moves [] [] [] s0 s → (∀ k ∈ h, s0.toks.length ≤ k) → pre ++ suf = L → i = pre.length → bs.length + tokSum suf < 2^40 →
  Ret (Z2 (.val v) (.val (.vp loc 0)) (.val v) (.val (.int .i64 L.length)) (.val (.int .i64 i)) s) s0 (.str (bs ++ textGo pre.getLast? suf))
 | [], pre, bs, h, s, i, H, m, hk, hp, hi, hb => by
   subst hi
   obtain ⟨s', e1, m1⟩ := Qdd H
   rw [Q4W]; simp only [go_sem, Nat.reduceAdd, Qf (by simpa using hp), e1, textGo, List.append_nil]
   exact ⟨s', rfl, (m.since m1 (by simp) (fun k h' => .inr (hk k h'))).toGrew⟩
 | t :: suf, pre, bs, h, s, i, H, m, hk, hp, hi, hb => by
   subst hi
   rw [Q5e] at hb
   obtain ⟨f1, f2, f3⟩ := Qc (f := AV.str) (sz := 1) hv hp (by omega) rfl (by decide)
   have hnew : ∀ {h' : List Nat} {s' : St}, Moves [loc] h h' s s' → Moves [] [] [] s0 s' ∧ ∀ k ∈ h', s0.toks.length ≤ k := fun {h' s'} c =>
    ⟨m.since c (fun i hi => by simp only [List.mem_singleton] at hi; subst hi; exact .inr hloc) (fun k h' => .inr (hk k h')), fun k hk' => (c.new k hk').elim (hk k) (fun h => Nat.le_trans m.tl h)⟩
   have c1 : ∀ x s, cw (.f Qe) [.sl [.str [40], .str [126], .str [33]], .str x] s = some (.ret (.val (.bool (hasL glueL x))), s) := fun x s => Q22 x glueL (by decide) s
   have c2 : ∀ x s, cw (.f Qe) [.sl [.str [41], .str [44], .str [59]], .str x] s = some (.ret (.val (.bool (hasL glueR x))), s) := fun x s => Q22 x glueR (by decide) s
   have fin : ∀ {bs' : Str} {h' : List Nat} {s' : St}, BldIs s' loc bs' h' → Moves [loc] h h' s s' → bs'.length + tokSum suf < 2^40 → Ret (Z2 (.val v) (.val (.vp loc 0)) (.val v) (.val (.int .i64 L.length)) (.val (.int .i64 ((pre.length + 1 : Nat) : Int))) s') s0 (.str (bs' ++ textGo (some t) suf)) := fun {bs' h' s'} H' c hb' => by
    have := Q5D L v hv hL loc s0 hloc suf (pre ++ [t]) bs' h' s' (pre.length + 1) H' (hnew c).1 (hnew c).2 (by simpa using hp) (by simp) hb'
    simpa using this
   obtain ⟨s1, h1, e1, H1, m1⟩ := Q3E H t (by omega)
   obtain ⟨s2, h2, e2, H2, m2⟩ := Q9r H 32 (by omega)
   obtain ⟨s3, h3, e3, H3, m3⟩ := Q3E H2 t (by simp; omega)
   have r1 := fin H1 m1 (by simp; omega)
   have r3 := fin H3 (m2.trans m3) (by simp; omega)
   rw [show ((32 : UInt8).toNat : Int) = 32 from rfl] at e2
   rw [Q4W]
   rcases List.eq_nil_or_concat pre with rfl | ⟨pre', q, rfl⟩
   ·have z : (((([] : List Str).length : Nat)) : Int) = 0 := rfl
    rw [z] at f1 f2 f3 ⊢
    have z1 : decide ((0 : Int) > 0) = false := rfl
    have r2 : Ret (Z2 (.val v) (.val (.vp loc 0)) (.val v) (.val (.int .i64 L.length)) (.val (.int .i64 ((([] : List Str).length + 1 : Nat) : Int))) s1) s0 (.str (bs ++ textGo ([] : List Str).getLast? (t :: suf))) := by
     simpa [textGo, sepB] using r1
    simp only [go_sem, Int.reduceAdd, Int.reduceGT, Nat.reduceAdd, Nat.reduceLeDiff, f1, f2, f3, z1, e1, ZO, c1, c2]
    exact r2
   ·have hp1 : decide (((pre'.concat q).length : Int) > 0) = true := by simp
    have hp2 : IntKind.i64.wrap (((pre'.concat q).length : Int) - 1) = (pre'.length : Int) := by
     rw [← hp] at hL
     simp only [List.concat_eq_append, List.length_append, List.length_singleton, List.length_cons, List.length_nil] at hL ⊢
     rw [wrap64 (by omega) (by omega)]
     omega
    have hp3 := QiZ (pre := pre') (q := q) (s := t) (suf := suf) hv (by simpa using hp)
    have hq : (pre'.concat q).getLast? = some q := by simp
    have g1 : hasL glueL q = true ∨ (hasL glueL q = false ∧ hasL glueR t = true) → Ret (Z2 (.val v) (.val (.vp loc 0)) (.val v) (.val (.int .i64 L.length)) (.val (.int .i64 (((pre'.concat q).length + 1 : Nat) : Int))) s1) s0 (.str (bs ++ textGo (pre'.concat q).getLast? (t :: suf))) := fun h => by
     rw [hq]
     rcases h with h | ⟨h, k⟩
     ·simpa [textGo, sepB, h] using r1
     ·simpa [textGo, sepB, h, k] using r1
    have g2 : hasL glueL q = false → hasL glueR t = false → Ret (Z2 (.val v) (.val (.vp loc 0)) (.val v) (.val (.int .i64 L.length)) (.val (.int .i64 (((pre'.concat q).length + 1 : Nat) : Int))) s3) s0 (.str (bs ++ textGo (pre'.concat q).getLast? (t :: suf))) := fun h k => by
     rw [hq]
     simpa [textGo, sepB, h, k] using r3
    cases hA : hasL glueL q with
    | true =>
      have g := g1 (.inl hA)
      simp only [go_sem, Nat.reduceAdd, Nat.reduceLeDiff, f1, f2, f3, hp1, hp2, hp3, e1, ZO, c1, c2, hA]
      exact g
    | false =>
      cases hB : hasL glueR t with
      | true =>
        have g := g1 (.inr ⟨hA, hB⟩)
        simp only [go_sem, Nat.reduceAdd, Nat.reduceLeDiff, f1, f2, f3, hp1, hp2, hp3, e1, ZO, c1, c2, hA, hB]
        exact g
      | false =>
        have g := g2 hA hB
        simp only [go_sem, Nat.reduceAdd, Nat.reduceLeDiff, f1, f2, f3, hp1, hp2, hp3, e1, e2, e3, ZO, c1, c2, hA, hB]
        exact g
theorem Qb5 (L : List Str) (v : AV) (hv : (Slot.val v).list? = some (L.map AV.str)) (hL : tokSum L < 2^40) (s : St) : Ret (cw (.f Q3a) [v] s) s (.str (textB L)) := by
 have hlen := Qag L
 have H : BldIs (St.addLocT s (.var (List.map .val (C.ti QW).zero)) QW) s.locs.length [] [] := by
  refine ⟨by simp [isBld, St.addLocT], .val .nilp, .val .nils, ?_, .inl rfl, .inl ⟨rfl, rfl, rfl⟩, fun l h => by cases h⟩
  simp only [St.addLocT, Qaz]
  rw [List.getElem?_append_right (Nat.le_refl _)]
  simp
 have m : Moves [] [] [] s (St.addLocT s (.var (List.map .val (C.ti QW).zero)) QW) := Moves.grew _ _ ⟨⟨_, rfl⟩, ⟨[], by simp [St.addLocT]⟩⟩
 have := Q5D L v hv (by omega) s.locs.length s (Nat.le_refl _) L [] [] [] _ 0 H m (by simp) rfl rfl (by simpa using hL)
 rw [Qek]
 simp only [go_sem, hv, List.length_map]
 exact this
end Go.Proofs.YtobelgghegmhhaaGreatDoor
namespace Go.Am
open Go
def StrsAV (v : AV) (l : List Str) : Prop := (Slot.val v).list? = some (l.map AV.str)
theorem StrsAV.cells {v : AV} {l : List Str} (h : StrsAV v l) : v.cells = [v] := by
 cases v <;> first | rfl | (simp only [StrsAV, Slot.list?] at h; cases h; done)
theorem StrsAV.bsl {v : AV} {l : List Str} (h : StrsAV v l) (r : List Slot) : bslS 1 (.val v :: r) = (bslS 1 r).map (v :: ·) := by
 cases v <;> first | (simp only [StrsAV, Slot.list?] at h; cases h; done) | (simp only [bslS]; cases bslS 1 r <;> rfl)
theorem StrsAV.bslx {x : Slot} {v : AV} {l : List Str} (hx : x.av = some v) (h : StrsAV v l) (r : List Slot) : bslS 1 (x :: r) = (bslS 1 r).map (v :: ·) := by
 have h1 := h.bsl r
 rw [← h1]
 have h2 : (Slot.val v).av = some v := rfl
 simp only [bslS, hx, h2]
theorem Q0I (l : List Str) : StrsAV (.sl (l.map AV.str)) l := id rfl
theorem QgG (nl : Bool) (l : List Str) : StrsAV (encS nl (l.map AV.str)) l := Qa _ _
theorem StrsAV.ld {v : AV} {l : List Str} (h : StrsAV v l) {t : TI} (ht : t.isAgg = false) (hz : t.size = 1) (s : St) : ldV t false s (.val (.cp v.cells)) = some (.val v) := by
 rw [h.cells]
 simp only [ldV, ofSlots, hz]
 simp [ht, ofCells]
structure SlotS (x : Slot) (l : List Str) : Prop where
 av : ∃ v, x.av = some v ∧ StrsAV v l
 list : x.list? = some (l.map AV.str)
def RetS (r : Res) (s : St) (l : List Str) : Prop := ∃ x s', r = some (.ret x, s') ∧ Grew s s' ∧ SlotS x l
theorem StrsAV.slot {v : AV} {l : List Str} (h : StrsAV v l) : SlotS (.val v) l := ⟨⟨v, rfl, h⟩, h⟩
theorem AccR.strs {e : TypeId} {s0 s : St} {x : Slot} {l : List Str} (h : AccR e s0 s x (l.map AV.str)) : ∃ v, x.av = some v ∧ StrsAV v l := by
 obtain ⟨nl, h1⟩ := h.av
 exact ⟨_, h1, QgG nl l⟩
theorem AccR.slot {e : TypeId} {s0 s : St} {x : Slot} {l : List Str} (h : AccR e s0 s x (l.map AV.str)) : SlotS x l := ⟨h.strs, h.list?⟩
end Go.Am
namespace Go.Proofs.YtobelgghegmhhaaGreatDoor
open Go Go.Am
set_option linter.unusedVariables false
set_option maxRecDepth 4000
def sumL (P : List (AV × List Str)) : Nat := (P.map fun p => p.2.length).sum
theorem Qi6 (p : AV × List Str) (P : List (AV × List Str)) : sumL (p :: P) = p.2.length + sumL P := by simp [sumL]
theorem Q6R (P : List (AV × List Str)) (hP : ∀ p ∈ P, StrsAV p.1 p.2) (hl : P.length < 2^40) (v : AV) (hv : (Slot.val v).list? = some (P.map (·.1))) (s0 : St) : ∀ (suf pre : List (AV × List Str)) (acc : List Str) (x : Slot) (s : St) (i : Nat), AccR Q2 s0 s x (acc.map AV.str) → pre ++ suf = P → i = pre.length → acc.length + sumL suf < 2^30 →
  RetA (QC x (.val v) (.val (.int .i64 P.length)) (.val (.int .i64 i)) s) Q2 s0 ((acc ++ (suf.map (·.2)).flatten).map AV.str)
 | [], pre, acc, x, s, i, A, hp, hi, hb => by
   subst hi
   rw [ZG]; simp only [go_sem, Qf (by simpa using hp), List.map_nil, List.flatten_nil, List.append_nil]
   exact RetA.mk A
 | p :: suf, pre, acc, x, s, i, A, hp, hi, hb => by
   subst hi
   rw [Qi6] at hb
   have hpm : p ∈ P := by rw [← hp]; simp
   have hc := (hP p hpm).cells
   obtain ⟨f1, f2, f3⟩ := Qc (f := fun p : AV × List Str => p.1) (sz := 1) hv hp (by omega) (by rw [hc]; rfl) (by decide)
   have e1 : ldV (C.ti Qs) false s (.val (.cp p.1.cells)) = some (.val p.1) := (hP p hpm).ld (by kernel_rfl) (by kernel_rfl) s
   obtain ⟨x', s', e2, A'⟩ := AccR.appendF (t := C.ti Q2) (B := p.2) A (hP p hpm) (fun _ => rfl) (by decide) (by omega) (by decide +kernel)
   have ih := Q6R P hP hl v hv s0 suf (pre ++ [p]) (acc ++ p.2) x' s' (pre.length + 1) A' (by simpa using hp) (by simp) (by simp only [List.length_append]; omega)
   rw [ZG]
   simp only [go_sem, f1, f2, f3, e1, e2] at ih ⊢
   simpa using ih
theorem Qhv (n : Nat) (h : n < 2^30) (s : St) : ∃ x s', cw (.f Zm) [.nils, .int .i64 n] s = some (.ret x, s') ∧ AccR Q2 s s' x (([] : List Str).map AV.str) := by
 have e : C.ext Zm = some (extGrow Q2 (C.ti Q2)) := by kernel_rfl
 by_cases h0 : n = 0
 ·subst h0
  exact ⟨.val .nils, s, Q29 e (by simp [extGrow]), .nil _ _⟩
 ·refine ⟨.own s.toks.length Q2 [], { s with toks := s.toks ++ [0] }, Q29 e ?_, (Grew.refl s).pushTok 0, .inr (.inr ⟨s.toks.length, rfl, Nat.le_refl _, by simp⟩)⟩
  have z1 : (C.ti Q2).size = 1 := by kernel_rfl
  have z2 : (C.ti Q2).bytes = 16 := by kernel_rfl
  simp only [extGrow, z1, z2]
  rw [if_neg (by omega), if_pos ⟨by omega, by omega, by decide, by omega⟩]
theorem Q6Q (P : List (AV × List Str)) (hP : ∀ p ∈ P, StrsAV p.1 p.2) (hl : P.length < 2^40) (v : AV) (hv : (Slot.val v).list? = some (P.map (·.1))) (s : St) : ∀ (suf pre : List (AV × List Str)) (n i : Nat), pre ++ suf = P → i = pre.length → n = sumL pre → sumL P < 2^30 →
  RetA (QB (.val v) (.val (.int .i64 n)) (.val v) (.val (.int .i64 P.length)) (.val (.int .i64 i)) s) Q2 s (((P.map (·.2)).flatten).map AV.str)
 | [], pre, n, i, hp, hi, hn, hb => by
   subst hi
   obtain ⟨x, s', e1, A⟩ := Qhv n (by rw [hn]; rw [List.append_nil] at hp; subst hp; exact hb) s
   have := Q6R P hP hl v hv s P [] [] x s' 0 A rfl rfl (by simpa using hb)
   rw [ZF]; simp only [go_sem, Qf (by simpa using hp), e1, hv, List.length_map]
   simpa using this
 | p :: suf, pre, n, i, hp, hi, hn, hb => by
   subst hi
   have hpm : p ∈ P := by rw [← hp]; simp
   have hc := (hP p hpm).cells
   have hs : sumL (pre ++ [p]) = sumL pre + p.2.length := by simp [sumL]
   have hs2 : sumL pre + p.2.length ≤ sumL P := by rw [← hp]; simp [sumL]
   obtain ⟨f1, f2, f3⟩ := Qc (f := fun p : AV × List Str => p.1) (sz := 1) hv hp (by omega) (by rw [hc]; rfl) (by decide)
   have e1 : ldV (C.ti Qs) false s (.val (.cp p.1.cells)) = some (.val p.1) := (hP p hpm).ld (by kernel_rfl) (by kernel_rfl) s
   have e2 : (Slot.val p.1).list? = some (p.2.map AV.str) := hP p hpm
   have hw : IntKind.i64.wrap ((n : Int) + (p.2.length : Int)) = ((n + p.2.length : Nat) : Int) := by rw [wrap64 (by omega) (by omega)]; rfl
   have hz : decide (((n + p.2.length : Nat) : Int) < 0) = false := by simp; omega
   have ih := Q6Q P hP hl v hv s suf (pre ++ [p]) (n + p.2.length) (pre.length + 1) (by simpa using hp) (by simp) (by rw [hs, hn]) hb
   rw [ZF]
   simp only [go_sem, f1, f2, f3, e1, e2, hw, hz, List.length_map] at ih ⊢
   exact ih
theorem Q85 (P : List (AV × List Str)) (hP : ∀ p ∈ P, StrsAV p.1 p.2) (hl : P.length < 2^40) (v : AV) (hv : (Slot.val v).list? = some (P.map (·.1))) (hb : sumL P < 2^30) (s : St) : RetA (cw (.f Q03) [v] s) Q2 s (((P.map (·.2)).flatten).map AV.str) := by
 have := Q6Q P hP hl v hv s P [] 0 0 rfl rfl rfl hb
 rw [show ((0 : Nat) : Int) = 0 from rfl] at this
 rw [Qfc]
 obtain ⟨x, s', e1, A⟩ := this
 have e2 : cw (.f QE) [v] s = some (.ret x, s') := by
  rw [Q2k]
  simp only [go_sem, hv, List.length_map]
  exact e1
 simp only [go_sem, e2]
 exact ⟨x, s', rfl, A⟩
theorem Qbm {a b c : AV} {la lb lc : List Str} (ha : StrsAV a la) (hb : StrsAV b lb) (hc : StrsAV c lc) (hl : la.length + lb.length + lc.length < 2^30) (s : St) : RetA (cw (.f Q03) [.sl [a, b, c]] s) Q2 s ((la ++ lb ++ lc).map AV.str) := by
 have := Q85 [(a, la), (b, lb), (c, lc)] (by intro p hp; simp only [List.mem_cons, List.not_mem_nil, or_false] at hp; rcases hp with rfl | rfl | rfl <;> assumption) (by simp) (.sl [a, b, c]) rfl (by simp [sumL]; omega) s
 simpa using this
theorem Qbl {a b : AV} {la lb : List Str} (ha : StrsAV a la) (hb : StrsAV b lb) (hl : la.length + lb.length < 2^30) (s : St) : RetA (cw (.f Q03) [.sl [a, b]] s) Q2 s ((la ++ lb).map AV.str) := by
 have := Q85 [(a, la), (b, lb)] (by intro p hp; simp only [List.mem_cons, List.not_mem_nil, or_false] at hp; rcases hp with rfl | rfl <;> assumption) (by simp) (.sl [a, b]) rfl (by simp [sumL]; omega) s
 simpa using this
theorem Q7n {a : AV} {l : List Str} (ha : StrsAV a l) (hl : l.length + 2 < 2^30) (s : St) : RetA (cw (.f Q4B) [a] s) Q2 s (([40] :: (l ++ [[41]])).map AV.str) := by
 obtain ⟨x, s', e1, A⟩ := Qbm (Q0I [[40]]) ha (Q0I [[41]]) (by simp; omega) s
 have c1 := ha.cells
 simp only [List.map_cons, List.map_nil] at e1
 rw [QgC]
 simp only [go_sem, Nat.reduceAdd, ZO, ha.bsl, e1]
 exact ⟨x, s', rfl, by simpa using A⟩
def PartOK (of : AV) (L : List (List Str)) : Prop := ∃ g caps, of = .fn g caps ∧ ∀ (i : Nat) (l : List Str), L[i]? = some l → ∀ s, RetS (cw (.f g) (.int .i64 i :: caps) s) s l
theorem Q4e (sign : Str) (g : FuncId) (caps : List AV) (L : List (List Str)) (hg : ∀ (i : Nat) (l : List Str), L[i]? = some l → ∀ s, RetS (cw (.f g) (.int .i64 i :: caps) s) s l) (hx : (C.ext g).isSome = false) (hL : L.length < 2^40) (s0 : St) : ∀ (suf pre : List (List Str)) (acc : List Str) (x : Slot) (s : St) (i : Nat), AccR Q2 s0 s x (acc.map AV.str) → pre ++ suf = L → i = pre.length → acc.length + (suf.map (·.length)).sum + suf.length < 2^30 →
  RetA (Zy (.val (.str sign)) (.val (.fn g caps)) x (.val (.int .i64 L.length)) (.val (.int .i64 i)) s) Q2 s0 ((acc ++ joinT sign suf pre.isEmpty).map AV.str)
 | [], pre, acc, x, s, i, A, hp, hi, hb => by
   subst hi
   rw [Q3n]; simp only [go_sem, Nat.reduceAdd, Qf (by simpa using hp), joinT, List.append_nil]
   exact RetA.mk A
 | l :: suf, pre, acc, x, s, i, A, hp, hi, hb => by
   subst hi
   simp only [List.map_cons, List.sum_cons, List.length_cons] at hb
   have hlt : pre.length < L.length := by rw [← hp]; simp
   have f1 : decide ((pre.length : Int) < (L.length : Int)) = true := by simpa using hlt
   have f3 : IntKind.i64.wrap ((pre.length : Int) + 1) = ((pre.length + 1 : Nat) : Int) := by rw [wrap64 (by omega) (by omega)]; rfl
   have hgi := hg pre.length l (by rw [← hp]; simp)
   rw [Q3n]
   cases pre with
   | nil =>
     obtain ⟨y, s1, e1, gB, hy⟩ := hgi s
     obtain ⟨x', s2, e3, A'⟩ := AccR.appendF (t := C.ti Q2) (B := l) (A.move gB) (y := y) hy.list (fun _ => rfl) (by decide) (by omega) (by decide +kernel)
     have ih := Q4e sign g caps L hg hx hL s0 suf [l] (acc ++ l) x' s2 1 A' (by simpa using hp) rfl (by simp only [List.length_append]; omega)
     have f1 : decide ((0 : Int) < (L.length : Int)) = true := by simpa using hlt
     have f3 : IntKind.i64.wrap 1 = 1 := rfl
     have e1 : cw (.f g) (.int .i64 0 :: caps) s = some (.ret y, s1) := e1
     have i0 : ((([] : List (List Str)).length : Nat) : Int) = 0 := rfl
     have i1 : ((1 : Nat) : Int) = 1 := rfl
     rw [i0]
     rw [i1] at ih
     have z1 : decide ((0 : Int) > 0) = false := rfl
     simp only [go_sem, Int.reduceAdd, Int.reduceGT, Nat.reduceAdd, f1, f3, z1, e1, e3, hx, joinT, List.isEmpty_nil] at ih ⊢
     simpa using ih
   | cons q pre' =>
     have z1 : decide ((((q :: pre').length : Nat) : Int) > 0) = true := by simp
     obtain ⟨x1, s1, e0, A1⟩ := AccR.appendF (t := C.ti Q2) (B := [sign]) (y := .full [.str sign]) A rfl (fun _ => rfl) (by decide) (by simp only [List.length_singleton]; omega) (by decide +kernel)
     obtain ⟨y, s2, e1, gB, hy⟩ := hgi s1
     obtain ⟨x', s3, e3, A'⟩ := AccR.appendF (t := C.ti Q2) (B := l) (A1.move gB) (y := y) hy.list (fun _ => rfl) (by decide) (by simp only [List.length_append, List.length_singleton]; omega) (by decide +kernel)
     have ih := Q4e sign g caps L hg hx hL s0 suf ((q :: pre') ++ [l]) (acc ++ [sign] ++ l) x' s3 ((q :: pre').length + 1) A' (by simpa using hp) (by simp) (by simp only [List.length_append, List.length_singleton]; omega)
     generalize (q :: pre').length = k at f1 f3 z1 e1 ih ⊢
     simp only [go_sem, Nat.reduceAdd, f1, f3, z1, e0, e1, e3, hx] at ih ⊢
     simpa [joinT] using ih
theorem Q6N (sign : Str) (of : AV) (L : List (List Str)) (h : PartOK of L) (hx : ∀ g caps, of = .fn g caps → (C.ext g).isSome = false) (hb : (L.map (·.length)).sum + L.length < 2^30) (s : St) : RetA (cw (.f Q0q) [.str sign, .int .i64 L.length, of] s) Q2 s ((joinT sign L true).map AV.str) := by
 obtain ⟨g, caps, rfl, hg⟩ := h
 have := Q4e sign g caps L hg (hx g caps rfl) (by omega) s L [] [] (.val .nils) s 0 (.nil _ _) rfl rfl (by simpa using hb)
 rw [Qac]
 simp only [go_sem] at this ⊢
 simpa using this
theorem QbB (n : Int) (h : -9223372036854775808 ≤ n ∧ n ≤ 9223372036854775807) (s : St) : cw (.f Q3P) [.int .i64 n] s = some (.ret (.val (.str (Go.Lib.itoa n))), s) := by
 have e : C.ext Q2S = some (pureX extItoa) := by kernel_rfl
 have e1 : cw (.f Q2S) [.int .i64 n] s = some (.ret (.val (.str (Go.Lib.itoa n))), s) := Q29 e (by simp [pureX, extItoa, h])
 rw [Qf4]
 simp only [go_sem, e1]
theorem QhU (m : Int) (h0 : 0 ≤ m) (h : m < 128) : convS (C.ti Q0v) (C.ti Q2) (.val (.int .i32 m)) = some (.val (.str [UInt8.ofNat m.toNat])) := by
 have k1 : (C.ti Q0v).k = .int .i32 := by kernel_rfl
 have k2 : (C.ti Q2).k = .str := by kernel_rfl
 simp only [convS, convStr, k1, k2, h0, h, and_self, if_true]
theorem Qdz (n : Int) (h0 : 0 ≤ n) (h : n < 2^62) : (Go.Lib.itoa n).length < 2^40 := by
 have := Go.Lib.itoa_length_le n (by omega) (by omega)
 omega
theorem QP {t : TI} {a b : Str} (h : a.length + b.length ≤ 9223372036854775807) : binS t .add (.val (.str a)) (.val (.str b)) = some (.val (.str (a ++ b))) := by
 simp only [binS, Slot.av]
 rw [if_pos h]
theorem QcU (n : Int) (h0 : 0 ≤ n) (h : n < 2^62) (s : St) : cw (.f Q2t) [.int .i64 n] s = some (.ret (.val (.str (39 :: letT n))), s) := by
 have a1 : n.tmod 26 = n % 26 := Int.tmod_eq_emod_of_nonneg h0
 have a2 : n.tdiv 26 = n / 26 := Int.tdiv_eq_ediv_of_nonneg h0
 have b1 : IntKind.i64.wrap (97 + n % 26) = 97 + n % 26 := wrap64 (by omega) (by omega)
 have b2 : IntKind.i64.wrap (n / 26) = n / 26 := wrap64 (by omega) (by omega)
 have b3 : IntKind.i32.wrap (97 + n % 26) = 97 + n % 26 := by simp [IntKind.wrap, IntKind.bits, IntKind.signed]; omega
 have e1 := QhU (97 + n % 26) (by omega) (by omega)
 have e2 := QbB (n / 26) (by omega) s
 have e3 := Qdz (n / 26) (by omega) (by omega)
 have k1 : convS (C.ti Q1) (C.ti Q0v) (.val (.int .i64 (97 + n % 26))) = some (.val (.int .i32 (97 + n % 26))) := by
  have k1 : (C.ti Q0v).k = .int .i32 := by kernel_rfl
  have k2 : (C.ti Q1).k = .int .i64 := by kernel_rfl
  simp only [convS, k1, k2, b3]
 rw [Q96]
 cases hn : decide (n > 25) with
 | false => simp only [go_sem, Int.reduceEq, ne_eq, not_false_eq_true, a1, b1, k1, e1, hn, letT]; rfl
 | true =>
   have c1 : ([39, UInt8.ofNat (97 + n % 26).toNat] : Str).length + (Go.Lib.itoa (n / 26)).length ≤ 9223372036854775807 := by simp only [List.length_cons, List.length_nil]; omega
   simp only [go_sem, Int.reduceEq, ne_eq, not_false_eq_true, a1, a2, b1, b2, k1, e1, e2, hn, letT]
   rw [QP (by simp)]
   simp only [go_sem]
   rw [QP (by simpa using c1)]
   rfl
end Go.Proofs.YtobelgghegmhhaaGreatDoor
namespace Go.Proofs.YtobelgghegmhhaaGreatDoor
open Go Go.Am
set_option linter.unusedVariables false
set_option maxRecDepth 4000
def shpB (t : Ty) : Bool := bif decide (t.kind = 1) then decide (0 ≤ t.n) && decide (t.n < 2^62) else !decide (t.name = [45, 62]) || decide (t.args.length = 2)
def TypOK (t : Ty) : Prop := ∀ (lv : Int) (s : St), RetS (cw (.f ZH) [t.enc, .int .i64 lv] s) s (typT t lv)
theorem Q6K (T : Ty) {i : Nat} {t : Ty} (hi : T.args[i]? = some t) : ixS 4 (.val (encS T.nl (T.args.map Ty.enc))) (.val (.int .i64 (i : Int))) = some (.val (.cp t.enc.cells)) :=
 Q18 (Qa _ _) (show (T.args.map Ty.enc)[i]? = some t.enc by simp [hi]) (Ty.cells_len t) (by decide)
theorem QgP (T : Ty) (H : ∀ t ∈ T.args, TypOK t) (i : Nat) (t : Ty) (hi : T.args[i]? = some t) (s : St) : RetS (cw (.f Q1k) [.int .i64 i, .cp T.cells] s) s (typT t 2) := by
 obtain ⟨x, s', e2, A⟩ := H t (List.mem_of_getElem? hi) 2 s
 rw [QcF]
 simp only [go_sem, Nat.reduceAdd, Nat.reduceLeDiff, Ty.cells_eq T, Q6K T hi, e2]
 exact ⟨x, s', rfl, A⟩
theorem QgQ (T : Ty) (H : ∀ t ∈ T.args, TypOK t) (i : Nat) (t : Ty) (hi : T.args[i]? = some t) (s : St) : RetS (cw (.f Q1l) [.int .i64 i, .cp T.cells] s) s (typT t 0) := by
 obtain ⟨x, s', e2, A⟩ := H t (List.mem_of_getElem? hi) 0 s
 rw [QcG]
 simp only [go_sem, Nat.reduceAdd, Nat.reduceLeDiff, Ty.cells_eq T, Q6K T hi, e2]
 exact ⟨x, s', rfl, A⟩
theorem Qnf (T : Ty) (H : ∀ t ∈ T.args, TypOK t) : PartOK (.fn Q1k [.cp T.cells]) (typTs T.args 2) := ⟨_, _, rfl, fun i l hl s => by
 rw [Q4x, List.getElem?_map, Option.map_eq_some_iff] at hl
 obtain ⟨t, h1, rfl⟩ := hl
 exact QgP T H i t h1 s⟩
theorem Qng (T : Ty) (H : ∀ t ∈ T.args, TypOK t) : PartOK (.fn Q1l [.cp T.cells]) (typTs T.args 0) := ⟨_, _, rfl, fun i l hl s => by
 rw [Q4x, List.getElem?_map, Option.map_eq_some_iff] at hl
 obtain ⟨t, h1, rfl⟩ := hl
 exact QgQ T H i t h1 s⟩
theorem Q7Z {p : Ty → Bool} : ∀ {l : List Ty}, allTys p l = true → ∀ u ∈ l, allTy p u = true
 | [], _, u, hu => by cases hu
 | t :: l, h, u, hu => by
   simp only [allTys, Bool.and_eq_true] at h
   rcases List.mem_cons.1 hu with rfl | hu
   ·exact h.1
   ·exact Q7Z h.2 u hu
theorem Q8A {s : St} {x : Slot} {l : List Str} (A : SlotS x l) (hl : l.length + 2 < 2^30) (lv lev : Int) : RetS (Q1Q (.val (.int .i64 lv)) (.val (.int .i64 lev)) x s) s (parT (decide (lev < lv)) l) := by
 rw [Qb7]
 cases hd : decide (lev < lv) with
 | false => simp only [go_sem, hd, parT]; exact ⟨x, s, rfl, .refl s, A⟩
 | true =>
   obtain ⟨v, hv, hs⟩ := A.av
   obtain ⟨y, s', e1, B⟩ := Q7n hs hl s
   simp only [go_sem, hd, Z5 hv, e1, parT]
   exact ⟨y, s', rfl, B.grew, B.slot⟩
theorem Q6t : ∀ (m : Nat) (t : Ty), t.size ≤ m → t.size < 2^26 → allTy shpB t = true → TypOK t
 | 0, t, h, _, _ => by cases t; simp only [Ty.size] at h; omega
 | m + 1, t, h, hb, hs => by
   intro lv s
   have kids : ∀ u ∈ t.args, TypOK u := fun u hu => by
    obtain ⟨k, n, nm, ags, nl⟩ := t
    have := Ty.mem_sizes hu
    simp only [Ty.size, Ty.args, allTy, Bool.and_eq_true] at h hb hs this
    refine Q6t m u (by omega) (by omega) ?_
    exact Q7Z hs.2 u hu
   have hsz : Ty.sizes t.args + 1 = t.size := by cases t; simp only [Ty.size, Ty.args]
   have hlen := Ty.len_sizes t.args
   have hsh : shpB t = true := by cases t; simp only [allTy, Bool.and_eq_true] at hs; exact hs.1
   have hT : typT t lv = bif decide (t.kind = 1) then [39 :: letT t.n]
    else bif decide (t.name = [45, 62]) then parT (decide (0 < lv)) ((typTs t.args 1).getD 0 [] ++ [[45, 62]] ++ (typTs t.args 0).getD 1 [])
    else bif decide (t.name = [42]) then parT (decide (1 < lv)) (joinT [42] (typTs t.args 2) true)
    else bif decide (t.args.length = 0) then [t.name]
    else bif decide (t.args.length = 1) then (typTs t.args 2).getD 0 [] ++ [t.name]
    else [40] :: (joinT [44] (typTs t.args 0) true ++ [[41]]) ++ [t.name] := by
    cases t
    simp only [typT, Ty.kind, Ty.n, Ty.name, Ty.args]
    rfl
   have c := Ty.cells_eq t
   have p1 := Qnf t kids
   have p2 := Qng t kids
   rw [c] at p1 p2
   have l0 := Q2j t.args 0
   have l2 := Q2j t.args 2
   have q0 : (typTs t.args 0).length = t.args.length := by rw [Q4x, List.length_map]
   have q2 : (typTs t.args 2).length = t.args.length := by rw [Q4x, List.length_map]
   have x1 : ∀ g caps, AV.fn Q1k [.cp [.int .i64 t.kind, .int .i64 t.n, .str t.name, encS t.nl (t.args.map Ty.enc)]] = .fn g caps → (C.ext g).isSome = false := fun g caps h => by cases h; kernel_rfl
   have x2 : ∀ g caps, AV.fn Q1l [.cp [.int .i64 t.kind, .int .i64 t.n, .str t.name, encS t.nl (t.args.map Ty.enc)]] = .fn g caps → (C.ext g).isSome = false := fun g caps h => by cases h; kernel_rfl
   rw [hT]
   unfold shpB at hsh
   rw [Qfd]
   cases hk : decide (t.kind = 1) with
   | true =>
     rw [hk] at hsh
     simp only [cond_true, Bool.and_eq_true, decide_eq_true_eq] at hsh
     have e1 := QcU t.n hsh.1 hsh.2 s
     simp only [go_sem, Nat.reduceAdd, Nat.reduceLeDiff, c, hk, e1, ZO]
     exact ⟨_, s, rfl, .refl s, (Q0I [39 :: letT t.n]).slot⟩
   | false =>
     rw [hk] at hsh
     simp only [cond_false] at hsh
     cases hn : decide (t.name = [45, 62]) with
     | true =>
       rw [hn] at hsh
       obtain ⟨a, b, hab⟩ : ∃ a b, t.args = [a, b] := by
        simp only [Bool.not_true, Bool.false_or, decide_eq_true_eq] at hsh
        match hq : t.args, hsh with
        | [a, b], _ => exact ⟨a, b, rfl⟩
       have f0 := Q6K t (i := 0) (t := a) (by rw [hab]; rfl)
       have f1 := Q6K t (i := 1) (t := b) (by rw [hab]; rfl)
       obtain ⟨y1, s1, e1, g1, h1⟩ := kids a (by rw [hab]; simp) 1 s
       obtain ⟨y2, s2, e2, g2, h2⟩ := kids b (by rw [hab]; simp) 0 s1
       obtain ⟨v1, av1, hv1⟩ := h1.av
       obtain ⟨v2, av2, hv2⟩ := h2.av
       have la := Q1w a 1
       have lb := Q1w b 0
       have hz : a.size + b.size + 1 = t.size := by rw [← hsz, hab]; simp only [Ty.sizes]; omega
       obtain ⟨y3, s3, e3, A3⟩ := Qbm hv1 (Q0I [[45, 62]]) hv2 (by simp only [List.length_singleton]; omega) s2
       obtain ⟨y4, s4, e4, g4, h4⟩ := Q8A (s := s3) A3.slot (by simp only [List.length_append, List.length_singleton]; omega) lv 0
       have bs1 : bslS 1 [y1, .val (.sl [.str [45, 62]]), y2] = some [v1, .sl [.str [45, 62]], v2] := by
        have hm : StrsAV (.sl [.str [45, 62]]) [[45, 62]] := Q0I [[45, 62]]
        rw [hv1.bslx av1, hm.bsl, hv2.bslx av2]; rfl
       rw [show ((0 : Nat) : Int) = 0 from rfl] at f0
       rw [show ((1 : Nat) : Int) = 1 from rfl] at f1
       simp only [List.map_cons, List.map_nil] at e3
       simp only [go_sem, Nat.reduceAdd, Nat.reduceLeDiff, c, hk, hn, f0, f1, e1, e2, ZO, bs1, e3, e4]
       refine ⟨y4, s4, rfl, ((g1.trans g2).trans A3.grew).trans g4, ?_⟩
       rw [hab]
       simpa [typTs] using h4
     | false =>
       cases hm : decide (t.name = [42]) with
       | true =>
         obtain ⟨y1, s1, e1, A1⟩ := Q6N [42] _ (typTs t.args 2) p1 x1 (by omega) s
         have hj := Q3e [42] (typTs t.args 2) true
         obtain ⟨y2, s2, e2, g2, h2⟩ := Q8A (s := s1) A1.slot (by omega) lv 1
         rw [q2] at e1
         simp only [go_sem, Nat.reduceAdd, Nat.reduceLeDiff, c, hk, hn, hm, e1, e2]
         exact ⟨y2, s2, rfl, A1.grew.trans g2, h2⟩
       | false =>
         cases h0 : decide (t.args.length = 0) with
         | true =>
           have h0' : decide ((t.args.length : Int) = 0) = true := by simpa using h0
           simp only [go_sem, Nat.reduceAdd, Nat.reduceLeDiff, c, hk, hn, hm, h0', ZO]
           exact ⟨_, s, rfl, .refl s, (Q0I [t.name]).slot⟩
         | false =>
           have h0' : decide ((t.args.length : Int) = 0) = false := by simpa using h0
           cases h1 : decide (t.args.length = 1) with
           | true =>
             have h1' : decide ((t.args.length : Int) = 1) = true := by simp at h1 ⊢; omega
             obtain ⟨a, ha⟩ : ∃ a, t.args = [a] := by
              simp only [decide_eq_true_eq] at h1
              match hq : t.args, h1 with
              | [a], _ => exact ⟨a, rfl⟩
             have f0 := Q6K t (i := 0) (t := a) (by rw [ha]; rfl)
             obtain ⟨y1, s1, e1, g1, k1⟩ := kids a (by rw [ha]; simp) 2 s
             obtain ⟨v1, av1, hv1⟩ := k1.av
             have la := Q1w a 2
             have hz : a.size + 1 = t.size := by rw [← hsz, ha]; simp only [Ty.sizes, Nat.add_zero]
             obtain ⟨y3, s3, e3, A3⟩ := Qbl hv1 (Q0I [t.name]) (by simp only [List.length_singleton]; omega) s1
             have bs1 : bslS 1 [y1, .val (.sl [.str t.name])] = some [v1, .sl [.str t.name]] := by
              rw [hv1.bslx av1]; rfl
             rw [show ((0 : Nat) : Int) = 0 from rfl] at f0
             simp only [List.map_cons, List.map_nil] at e3
             simp only [go_sem, Nat.reduceAdd, Nat.reduceLeDiff, c, hk, hn, hm, h0', h1', f0, e1, ZO, bs1, e3]
             refine ⟨y3, s3, rfl, g1.trans A3.grew, ?_⟩
             have := A3.slot
             rw [ha]
             simpa [typTs] using this
           | false =>
             have h1' : decide ((t.args.length : Int) = 1) = false := by simp at h1 ⊢; omega
             obtain ⟨y1, s1, e1, A1⟩ := Q6N [44] _ (typTs t.args 0) p2 x2 (by omega) s
             obtain ⟨v1, av1, hv1⟩ := A1.strs
             have hj := Q3e [44] (typTs t.args 0) true
             obtain ⟨y2, s2, e2, A2⟩ := Q7n hv1 (by omega) s1
             obtain ⟨v2, av2, hv2⟩ := A2.strs
             obtain ⟨y3, s3, e3, A3⟩ := Qbl hv2 (Q0I [t.name]) (by simp only [List.length_append, List.length_cons, List.length_nil]; omega) s2
             have bs1 : bslS 1 [y2, .val (.sl [.str t.name])] = some [v2, .sl [.str t.name]] := by
              rw [hv2.bslx av2]; rfl
             rw [q0] at e1
             simp only [List.map_cons, List.map_nil] at e3
             simp only [go_sem, Nat.reduceAdd, Nat.reduceLeDiff, c, hk, hn, hm, h0', h1', e1, Z5 av1, e2, ZO, bs1, e3]
             exact ⟨y3, s3, rfl, (A1.grew.trans A2.grew).trans A3.grew, by simpa using A3.slot⟩
end Go.Proofs.YtobelgghegmhhaaGreatDoor
namespace Go.Proofs.YtobelgghegmhhaaGreatDoor
open Go Go.Am
set_option linter.unusedVariables false
theorem wrapU8 {n : Int} (h : 0 ≤ n) (g : n ≤ 255) : IntKind.u8.wrap n = n := by
 unfold IntKind.wrap
 simp [IntKind.bits, IntKind.signed]
 omega
theorem QiI (n : Int) : convS (C.ti Q9) (C.ti Q1) (.val (.int .u8 n)) = some (.val (.int .i64 (IntKind.i64.wrap n))) := by
 simp only [convS, Q15, Qh6]
theorem Qge {c : UInt8} (h : digC c = true) : (48 : Int) ≤ c.toNat ∧ (c.toNat : Int) ≤ 57 := by
 simp only [digC, digB, Bool.and_eq_true, decide_eq_true_eq] at h
 omega
theorem Qf5 (L : Str) (td : Bool) (hl : L.length ≤ 10) : ∀ (suf pre : Str) (n : Int) (s : St) (i : Nat), pre ++ suf = L → i = pre.length → suf.all digC = true → 0 ≤ n → n < 10 ^ pre.length →
  Q0W (.val (.str L)) (.val (.bool td)) (.val (.int .i64 n)) (.val (.int .i64 L.length)) (.val (.int .i64 (i : Int))) s =
   some (.ret (.val (.tup [.int .i64 (numV n suf), .bool (decide (numV n suf < 1073741824) || decide (numV n suf = 1073741824) && td)])), s) := by
 intro suf
 induction suf with
 | nil =>
   intro pre n s i h hi hd h0 h1
   rw [List.append_nil] at h
   subst h hi
   rw [Q4i, show numV n [] = n from rfl]
   simp only [go_sem, Int.lt_irrefl]
 | cons c suf ih =>
   intro pre n s i h hi hd h0 h1
   subst hi
   have hc : L[pre.length]? = some c := by rw [← h]; simp
   have hlt : pre.length < L.length := by rw [← h]; simp
   simp only [List.all_cons, Bool.and_eq_true] at hd
   obtain ⟨b1, b2⟩ := Qge hd.1
   have hp : (10 : Int) ^ pre.length ≤ 10 ^ 9 := by exact_mod_cast (Nat.pow_le_pow_right (n := 10) (by decide) (show pre.length ≤ 9 by omega))
   have hp2 : (10 : Int) ^ (pre.length + 1) = 10 * 10 ^ pre.length := by rw [Int.pow_succ, Int.mul_comm]
   have hb : decide ((pre.length : Int) < (L.length : Int)) = true := by simpa using hlt
   have := ih (pre ++ [c]) (10 * n + ((c.toNat : Int) - 48)) s (pre.length + 1) (by simp [h]) (by simp) hd.2 (by omega) (by rw [List.length_append, List.length_singleton, hp2]; omega)
   rw [Q4i]
   simp only [go_sem, hb, Q0Q Qh hc]
   rw [wrapU8 (by omega) (by omega), QiI]
   simp only [go_sem, Nat.reduceAdd, Nat.reduceLeDiff]
   rw [wrap64 (n := 10 * n) (by omega) (by omega), wrap64 (n := (c.toNat : Int) - 48) (by omega) (by omega), wrap64 (n := 10 * n + _) (by omega) (by omega), wrap64 (n := (pre.length : Int) + 1) (by omega) (by omega)]
   have e : (pre.length : Int) + 1 = ((pre.length + 1 : Nat) : Int) := by omega
   rw [e, this]
   rfl
theorem Q9G (t : Str) (td : Bool) (h0 : t ≠ []) (hd : t.all digC = true) (hl : t.length < 2^62) (s : St) :
  cw (.f Q2m) [.str t, .bool td] s = some (.ret (.val (.tup [.int .i64 (numA t td).1, .bool (numA t td).2])), s) := by
 rw [Qcm]
 have hz : decide (((t.headD 0).toNat : Int) = 48) = decide (t.headD 0 = 48) := by
  rw [decide_eq_decide]
  constructor
  ·intro h; exact UInt8.toNat_inj.1 (by show _ = 48; omega)
  ·intro h; rw [h]; rfl
 cases h1 : decide ((t.length : Int) > 1) && decide (t.headD 0 = 48) || decide ((t.length : Int) > 10)
 ·have hn : numA t td = (numV 0 t, decide (numV 0 t < 1073741824) || decide (numV 0 t = 1073741824) && td) := by unfold numA; rw [h1]; rfl
  have hlen : t.length ≤ 10 := by
   simp only [Bool.or_eq_false_iff, decide_eq_false_iff_not] at h1; omega
  have := Qf5 t td hlen t [] 0 s 0 rfl rfl hd (by decide) (by simp)
  rw [hn]
  simp only [Int.ofNat_zero] at this
  rw [← this]
  simp only [Bool.or_eq_false_iff] at h1
  obtain ⟨h2, h3⟩ := h1
  cases h4 : decide ((t.length : Int) > 1)
  ·simp only [go_sem, h4, h3]
  ·simp only [h4, Bool.true_and] at h2
   simp only [go_sem, h4, ZM Qh h0, hz, h2, h3]
 ·have hn : numA t td = (0, false) := by unfold numA; rw [h1]; rfl
  rw [hn]
  cases h4 : decide ((t.length : Int) > 1)
  ·simp only [h4, Bool.false_and, Bool.false_or] at h1
   simp only [go_sem, h4, h1]
  ·simp only [h4, Bool.true_and] at h1
   cases h2 : decide (t.headD 0 = 48)
   ·simp only [h2, Bool.false_or] at h1
    simp only [go_sem, h4, ZM Qh h0, hz, h2, h1]
   ·simp only [go_sem, h4, ZM Qh h0, hz, h2]
theorem QaP (t : Str) (h0 : t ≠ []) (s : St) : cw (.f Q54) [.str t] s = some (.ret (.val (.int .i64 (namedA t))), s) := by
 rw [QdH, Qfq]
 simp only [go_sem, Q22 t lwords (by decide)]
 unfold namedA
 cases hasL lwords t
 ·simp only [go_sem]
  cases h1 : decide (t = [116, 114, 117, 101])
  ·simp only [go_sem]
   cases h2 : decide (t = [102, 97, 108, 115, 101])
   ·simp only [go_sem, ZM Qh h0]
   ·simp only [go_sem]
  ·simp only [go_sem]
 ·simp only [go_sem]
theorem Qgp (s : Str) (n : Nat) (h : n ≤ s.length) (st : St) : cw (.f Qe) [.sl (lsigns.map .str), .str (s.take n)] st = some (.ret (.val (.bool (hasL lsigns (s.take n)))), st) := Q22 _ _ (by decide) _
theorem QbZ (t : Str) (s : St) : ∀ n : Nat, n ≤ t.length → n ≤ 2 → Q1N (.val (.str t)) (.val (.int .i64 (n : Int))) s =
  some (.ret (.val (.str (bif decide (2 ≤ n) && hasL lsigns (t.take 2) then t.take 2 else bif decide (1 ≤ n) && hasL lsigns (t.take 1) then t.take 1 else []))), s)
 | 0, _, _ => by rw [Q5o]; simp only [go_sem, Nat.reduceLeDiff]; try rfl
 | n + 1, h, h2 => by
   rw [Q5o, Qff]
   have hb : decide (((n + 1 : Nat) : Int) > 0) = true := by simp
   simp only [go_sem, Nat.reduceLeDiff, hb, Q3o Qh h, Qgp t (n + 1) h]
   have e : ((n + 1 : Nat) : Int) - 1 = (n : Int) := by omega
   rw [e, wrap64 (by omega) (by omega), QbZ t s n (by omega) (by omega)]
   rcases Nat.lt_or_ge n 1 with hn | hn
   ·obtain rfl : n = 0 := by omega
    simp only [go_sem, Nat.reduceAdd, Nat.reduceLeDiff]
    try (cases hasL lsigns (t.take 1) <;> rfl)
   ·obtain rfl : n = 1 := by omega
    simp only [go_sem, Nat.reduceAdd, Nat.reduceLeDiff]
    try (cases hasL lsigns (t.take 2) <;> rfl)
theorem Qcp (t : Str) (hl : t.length < 2^62) (s : St) : cw (.f Q3O) [.str t] s = some (.ret (.val (.str (signA t))), s) := by
 rw [Qf1]
 have hm : min2 (.val (.int .i64 2)) (.val (.int .i64 (t.length : Int))) = some (.val (.int .i64 ((min 2 t.length : Nat) : Int))) := by
  simp only [min2]
  congr 4
  split <;> omega
 simp only [go_sem, hm]
 rw [QbZ t s (min 2 t.length) (by omega) (by omega)]
 unfold signA
 have h1 : decide (2 ≤ min 2 t.length) = decide (2 ≤ t.length) := by rw [decide_eq_decide]; omega
 have h2 : decide (1 ≤ min 2 t.length) = decide (1 ≤ t.length) := by rw [decide_eq_decide]; omega
 rw [h1, h2]
end Go.Proofs.YtobelgghegmhhaaGreatDoor
namespace Go.Proofs.YtobelgghegmhhaaGreatDoor
open Go Go.Am
set_option linter.unusedVariables false
set_option maxRecDepth 4000
section
variable (t : Str) (hl : t.length < 2^60) (s : St)
include hl
theorem QjG : cw (.f Q0h) [.int .i64 0, .fn Q0g [], .cp [.str t]] s = some (.ret (.val (.str (t.takeWhile digC))), s) :=
 Q7D Q0g digB Q30 [] t 0 rfl (by simpa using (by omega : t.length < 2^62)) s
theorem QjF : cw (.f Q0h) [.int .i64 0, .fn ZJ [], .cp [.str t]] s = some (.ret (.val (.str (t.takeWhile amoC))), s) :=
 Q7D ZJ amoB Q5n [] t 0 rfl (by simpa using (by omega : t.length < 2^62)) s
theorem Qih (h0 : t ≠ []) : cw (.f Q0h) [.int .i64 1, .fn ZJ [], .cp [.str t]] s = some (.ret (.val (.str (t.take 1 ++ (t.drop 1).takeWhile amoC))), s) := by
 have h1 : (t.take 1).length = 1 := by cases t with | nil => exact absurd rfl h0 | cons a r => rfl
 have := Q7D ZJ amoB Q5n (t.take 1) (t.drop 1) 1 h1.symm (by rw [List.take_append_drop]; omega) s
 rw [List.take_append_drop] at this
 exact this
end
theorem QjA (c : UInt8) (n : Nat) (h : n < 256) : decide ((c.toNat : Int) = (n : Int)) = decide (c = UInt8.ofNat n) := by
 rw [decide_eq_decide]
 constructor
 ·intro h'
  apply UInt8.toNat_inj.1
  simp only [UInt8.toNat_ofNat']
  omega
 ·intro h'
  rw [h']
  simp only [UInt8.toNat_ofNat']
  omega
theorem QdJ (t : Str) (td : Bool) (hl : t.length < 2^60) (s : St) (z : List Slot) (hz : z.length = 4) :
  Q2H (.val (.cp [.str t])) z s = some (.ret (.val (.tup [(restA t).2.enc, .int .i64 (restA t).1])), s) := by
 rw [Qcn]
 have hs := Qcp t (by omega) s
 obtain ⟨a, b, c, d, rfl⟩ : ∃ a b c d, z = [a, b, c, d] := by
  match z, hz with
  | [a, b, c, d], _ => exact ⟨a, b, c, d, rfl⟩
 simp only [go_sem, Nat.reduceAdd, Nat.reduceLeDiff, hs]
 unfold restA
 cases decide (signA t = [])
 ·simp only [go_sem]; rfl
 ·simp only [go_sem]; rfl
theorem get1 {t : Str} (h : 1 < t.length) : t[1]? = some ((t.drop 1).headD 0) := by
 match t, h with
 | a :: b :: r, _ => rfl
theorem QdK (t : Str) (td : Bool) (h0 : t ≠ []) (hl : t.length < 2^60) (s : St) :
  cw (.f Q4A) [.str t, .bool td] s = some (.ret (.val (.tup [(oneA t td).2.enc, .int .i64 (oneA t td).1])), s) := by
 rw [Qgu]
 have hr := QdJ t td hl s [.val (.int .i64 0), .val (.int .i64 0), .val (.str []), .val (.int .i64 0)] rfl
 have hn : digC (t.headD 0) = true → t.takeWhile digC ≠ [] ∧ (t.takeWhile digC).all digC = true := fun h => by
  cases t with
  | nil => exact absurd rfl h0
  | cons c r =>
    have h : digC c = true := h
    refine ⟨by simp [List.takeWhile_cons, h], ?_⟩
    exact List.all_takeWhile
 have hld : (t.takeWhile digC).length ≤ t.length := Q1g _ _
 have hla : (t.takeWhile amoC).length ≤ t.length := Q1g _ _
 unfold oneA
 simp only [go_sem, Nat.reduceAdd, Nat.reduceLeDiff, ZM Qh h0, Q30, Q31, QjG t hl, QjF t hl]
 rw [show digB ((t.headD 0).toNat : Int) = digC (t.headD 0) from rfl, show firB ((t.headD 0).toNat : Int) = firC (t.headD 0) from rfl]
 cases hd : digC (t.headD 0)
 ·simp only [go_sem]
  cases hf : firC (t.headD 0)
  ·simp only [go_sem]
   rw [show decide (((t.headD 0).toNat : Int) = 39) = decide (t.headD 0 = 39) from QjA _ 39 (by decide)]
   cases h3 : decide (t.headD 0 = 39)
   ·simp only [go_sem, hr]
   ·simp only [go_sem]
    have e1 : decide ((t.length : Int) > 1) = decide (1 < t.length) := by rw [decide_eq_decide]; omega
    rw [e1]
    cases h4 : decide (1 < t.length)
    ·simp only [go_sem, hr]
    ·have h5 := get1 (of_decide_eq_true h4)
     have h6 := Q0Q (t := C.ti Q2) (et := C.ti T_0) (n := 1) Qh h5
     simp only [Int.cast_ofNat_Int] at h6
     have h8 : (t.take 1 ++ (t.drop 1).takeWhile amoC).length ≤ t.length := by
      have := Q1g amoC (t.drop 1)
      simp only [List.length_append, List.length_take, List.length_drop] at *
      have := of_decide_eq_true h4
      omega
     have hu := Qih t hl s h0
     generalize t.take 1 ++ (t.drop 1).takeWhile amoC = u at h8 hu ⊢
     simp only [go_sem, Nat.reduceAdd, Nat.reduceLeDiff, h6, Q31, hu]
     rw [show firB (((t.drop 1).headD 0).toNat : Int) = firC ((t.drop 1).headD 0) from rfl]
     cases h7 : firC ((t.drop 1).headD 0)
     ·simp only [go_sem, hr]
     ·simp only [go_sem]
      rw [wrap64 (by omega) (by omega)]
      unfold tyvA
      cases decide ((u.length : Int) - 1 > 32)
      ·simp only [go_sem]; rfl
      ·simp only [go_sem]; rfl
  ·simp only [go_sem]
   have h9 : t.takeWhile amoC ≠ [] := by
    cases t with
    | nil => exact absurd rfl h0
    | cons c r =>
      have hf : firC c = true := hf
      have : amoC c = true := by unfold amoC amoB; unfold firC at hf; rw [hf]; rfl
      simp [List.takeWhile_cons, this]
   cases h3 : decide (t.takeWhile amoC = [95])
   ·simp only [go_sem]
    cases h4 : decide (((t.takeWhile amoC).length : Int) > 32)
    ·simp only [go_sem, Nat.reduceAdd, Nat.reduceLeDiff, QaP _ h9]; rfl
    ·simp only [go_sem]; rfl
   ·simp only [go_sem, hr]
 ·obtain ⟨h1, h2⟩ := hn hd
  simp only [go_sem, Nat.reduceAdd, Nat.reduceLeDiff, Q9G _ td h1 h2 (by omega)]
  cases (numA (t.takeWhile digC) td).2
  ·simp only [go_sem]; rfl
  ·simp only [go_sem]; rfl
end Go.Proofs.YtobelgghegmhhaaGreatDoor
namespace Go.Proofs.YtobelgghegmhhaaGreatDoor
open Go Go.Am
set_option linter.unusedVariables false
set_option maxRecDepth 4000
theorem LTok.cells_mk (k p : Int) (t : Str) (n : Int) : (LTok.mk k p t n).cells = [.int .i64 k, .int .i64 p, .str t, .int .i64 n] := rfl
theorem tokAcc {s0 s : St} {x : Slot} {A : List LTok} {b : LTok} (a : AccR Qg s0 s x (A.map LTok.enc)) (b1 : A.length < 2^29) :
  ∃ x' s', appendS Qg (C.ti Qg) s x (.full [b.enc]) = some (x', s') ∧ AccR Qg s0 s' x' ((A ++ [b]).map LTok.enc) :=
 AccR.appendF (B := [b]) a rfl (fun a => by rw [Q9i]; exact LTok.cells_len a) (by rw [Q9i]; decide) (by simp; omega) (by rw [QeG]; decide)
theorem Q6c (acc : List LTok) (x : Slot) (s0 s : St) (a : AccR Qg s0 s x (acc.map LTok.enc)) (k p : Int) :
  ∃ nl s', Q0l [.val (.int .i64 0), .val (.int .i64 0), .val (.str [])] x [.val (.int .i64 k), .val (.int .i64 p), .val (.str [])] s = some (.ret (.val (.tup [encS nl ((bif decide (k = 0) then acc else []).map LTok.enc), badEnc k p])), s') ∧ Grew s0 s' := by
 rw [QaN]
 obtain ⟨nl, hx⟩ := a.av
 simp only [go_sem, Int.reduceLT, Int.reduceNeg, Nat.reduceAdd, Nat.reduceLeDiff]
 cases decide (k = 0)
 ·simp only [go_sem, Int.reduceNeg]
  exact ⟨true, s, rfl, a.grew⟩
 ·simp only [go_sem, Qbh hx]
  exact ⟨nl, s, rfl, a.grew⟩
theorem Qgs {acc : List LTok} {x : Slot} (h : x.list? = some (acc.map LTok.enc)) (h0 : 0 < acc.length) : ixS 4 x (.val (.int .i64 ((acc.length : Int) - 1))) = some (.val (.cp (acc.getLastD .zero).cells)) := by
 have hne : acc ≠ [] := List.length_pos_iff.1 h0
 have e : (acc.length : Int) - 1 = ((acc.length - 1 : Nat) : Int) := by omega
 rw [e]
 have hg : acc[acc.length - 1]? = some (acc.getLastD .zero) := by
  rw [← List.getLast?_eq_getElem?, List.getLast?_eq_some_getLast hne, List.getLastD_eq_getLast?, List.getLast?_eq_some_getLast hne]
  rfl
 exact Q18 (v := LTok.enc (acc.getLastD .zero)) h (by rw [List.getElem?_map, hg]; rfl) (LTok.cells_len _) (by decide)
theorem QhV (L : Str) (hl : L.length ≤ 65536) (s0 : St) : ∀ (fuel : Nat) (suf pre : Str) (acc : List LTok) (x : Slot) (s : St) (i : Nat), suf.length < fuel → pre ++ suf = L → i = pre.length → AccR Qg s0 s x (acc.map LTok.enc) → acc.length ≤ pre.length →
  ∃ nl s', Q0m (.val (.str L)) [.val (.int .i64 0), .val (.int .i64 0), .val (.str [])] x [.val (.int .i64 0), .val (.int .i64 0), .val (.str [])] (.val (.int .i64 (i : Int))) s =
    some (.ret (.val (.tup [encS nl ((scanF fuel i suf acc).1.map LTok.enc), badEnc (scanF fuel i suf acc).2.1 (scanF fuel i suf acc).2.2])), s') ∧ Grew s0 s' := by
 intro fuel
 induction fuel with
 | zero => intro suf pre acc x s i h; omega
 | succ n ih =>
   intro suf pre acc x s i hf h hi a hacc
   subst hi
   have hL : pre.length + suf.length = L.length := by rw [← h]; simp
   rw [QaO]
   match suf, hf, h, hL with
   | [], _, h, hL =>
     have hb : decide ((pre.length : Int) < (L.length : Int)) = false := by simp; simp at hL; omega
     simp only [go_sem, Nat.reduceAdd, Nat.reduceLeDiff, hb]
     exact Q6c acc x s0 s a 0 0
   | c :: r, hf, h, hL =>
     simp only [List.length_cons] at hL hf
     have hc : L[pre.length]? = some c := by rw [← h]; simp
     have hb : decide ((pre.length : Int) < (L.length : Int)) = true := by simp; omega
     have hfrom := Q8t (t := C.ti Q2) Qh (l := L) (i := pre.length) (by omega)
     have hdrop : L.drop pre.length = c :: r := by rw [← h]; simp
     rw [hdrop] at hfrom
     have hpre := QaG (c :: r) [40, 42] s
     have hop : (decide (([40, 42] : Str).length ≤ (c :: r).length) && decide ((c :: r).take ([40, 42] : Str).length = [40, 42])) = lxOpens (c :: r) := by
      cases r with
      | nil => rfl
      | cons b r => simp [lxOpens, Bool.decide_and]
     rw [hop] at hpre
     have hrem := Q9H pre (c :: r) (by rw [h]; omega) s
     rw [h] at hrem
     simp only [go_sem, Int.reduceNeg, Nat.reduceAdd, Nat.reduceLeDiff, hb, Q0Q Qh hc, QaJ, Qiz, hfrom, hpre, hrem, a.list?]
     unfold scanF
     cases hbl : blankC c
     ·simp only [go_sem, Int.reduceNeg]
      cases hop2 : lxOpens (c :: r)
      ·simp only [go_sem, Int.reduceNeg]
       cases hge : decide (acc.length ≥ 16384)
       ·have hge' : decide ((acc.length : Int) ≥ 16384) = false := by simp at hge ⊢; omega
        have hone := QdK (c :: r) (tildeL acc) (by simp) (by simp; omega) s
        have hp := Qjd (c :: r) (tildeL acc) (by simp)
        simp only [go_sem, hge']
        rcases Nat.eq_zero_or_pos acc.length with h0 | h0
        case' inl =>
         have hz : decide ((acc.length : Int) > 0) = false := by simp [h0]
         have ht : tildeL acc = false := by unfold tildeL; rw [decide_eq_false (by omega)]; rfl
         rw [ht] at hone hp ⊢
         simp only [go_sem, Nat.reduceAdd, Nat.reduceLeDiff, hz, hone]
         generalize oneA (c :: r) false = z at hp
        case' inr =>
         have hz : decide ((acc.length : Int) > 0) = true := by simp; omega
         have ht : tildeL acc = decide ((acc.getLastD .zero).text = [126]) := by unfold tildeL; rw [decide_eq_true h0]; rfl
         rw [ht] at hone hp ⊢
         simp only [go_sem, hz]
         rw [wrap64 (by omega) (by omega), Qgs a.list? h0]
         simp only [go_sem, Nat.reduceAdd, Nat.reduceLeDiff, hone, LTok.cells]
         generalize oneA (c :: r) (decide ((acc.getLastD .zero).text = [126])) = z at hp
        all_goals
         obtain ⟨e, k, p, t, m⟩ := z
         simp only [go_sem, LTok.cells_mk]
         cases he : decide (e = 0)
         ·simp only [go_sem, Nat.reduceAdd, Nat.reduceLeDiff, LTok.enc, LTok.cells_mk]
          have := Q6c acc x s0 s a e pre.length
          rw [he] at this
          exact this
         ·obtain ⟨hp1, hp2, hp3⟩ := hp (of_decide_eq_true he)
          simp only at hp1 hp2 hp3
          obtain ⟨x', s', ha, a'⟩ := tokAcc (b := ⟨k, pre.length, t, m⟩) a (by omega)
          have ht1 := hp1.length_le
          have ht0 : 0 < t.length := List.length_pos_iff.2 hp2
          simp only [List.length_cons] at ht1
          simp only [LTok.enc, LTok.cells_mk] at ha
          simp only [go_sem, Nat.reduceAdd, Nat.reduceLeDiff, LTok.enc, LTok.cells_mk, ha]
          rw [wrap64 (by omega) (by omega)]
          exact ih ((c :: r).drop t.length) (pre ++ (c :: r).take t.length) _ x' s' (pre.length + t.length) (by simp; omega) (by rw [List.append_assoc, List.take_append_drop, h]) (by simp; omega) a' (by simp; omega)
       ·have hge' : decide ((acc.length : Int) ≥ 16384) = true := by simp at hge ⊢; omega
        simp only [go_sem, hge']
        exact Q6c acc x s0 s a 4 pre.length
      ·simp only [go_sem, Int.reduceNeg]
       cases hcom : lxCom 0 (c :: r) with
       | none =>
         simp only [go_sem, Int.reduceLT, Int.reduceNeg, Nat.reduceAdd, Nat.reduceLeDiff]
         exact Q6c acc x s0 s a 12 pre.length
       | some k =>
         have hk := Q9t _ _ _ hcom
         simp only [List.length_cons] at hk
         have hneg : decide (((pre.length + k : Nat) : Int) < 0) = false := by simp; omega
         simp only [go_sem, hneg]
         exact ih ((c :: r).drop k) (pre ++ (c :: r).take k) acc x s (pre.length + k) (by simp; omega) (by rw [List.append_assoc, List.take_append_drop, h]) (by simp; omega) a (by simp; omega)
     ·simp only [go_sem, Int.reduceNeg]
      rw [wrap64 (by omega) (by omega)]
      exact ih r (pre ++ [c]) acc x s (pre.length + 1) (by omega) (by simp [h]) (by simp) a (by simp; omega)
theorem Qcl (L : Str) (hl : L.length < 2^60) (s : St) : ∃ nl s', cw (.f Q2l) [.str L] s = some (.ret (.val (.tup [encS nl ((lxScan L).1.map LTok.enc), badEnc (lxScan L).2.1 (lxScan L).2.2])), s') ∧ Grew s s' := by
 rw [Qf0]
 unfold lxScan
 simp only [go_sem, Int.reduceLT, Int.reduceNeg, Nat.reduceAdd, Nat.reduceLeDiff]
 cases hb : decide ((L.length : Int) > 65536)
 ·simp only [go_sem, Int.reduceNeg]
  exact QhV L (by simp at hb; omega) s (L.length + 1) L [] [] (.val .nils) s 0 (by omega) rfl rfl (AccR.nil _ _) (by simp)
 ·simp only [go_sem, Int.reduceNeg]
  exact ⟨true, s, rfl, .refl s⟩
end Go.Proofs.YtobelgghegmhhaaGreatDoor
namespace Go.Proofs.YtobelgghegmhhaaGreatDoor
open Go Go.Am
set_option linter.unusedVariables false
set_option maxRecDepth 4000
section
variable (L : Nat)
def AtL (m : Int) (s : St) : Prop := s.locs[L]? = some (.var [.val (.int .i64 m)])
def ToldOK (t : Ty) : Prop := ∀ m s, AtL L m s → 0 ≤ m → m < 2^40 → ∃ s' m' b, cw (.f Q11) [t.enc, .vp L 0] s = some (.ret (.val (.bool b)), s') ∧ (b = true ↔ (t.size : Int) ≤ m ∧ allTy tellB t = true) ∧ AtL L m' s' ∧ Moves [L] [] [] s s' ∧ (b = true → m' = m - t.size) ∧ -1 ≤ m' ∧ m' ≤ m
theorem Qc9 (l : List Ty) (x : Slot) (hx : x.list? = some (l.map Ty.enc)) (hl : l.length < 2^40) : ∀ (suf pre : List Ty) (m : Int) (s : St) (i : Nat), pre ++ suf = l → i = pre.length → (∀ t ∈ suf, ToldOK L t) → AtL L m s → 0 ≤ m → m < 2^40 →
  ∃ s' m' r, Qq x (.val (.fn ZX [.cp [.vp L 0]])) (.val (.int .i64 l.length)) (.val (.int .i64 i)) s = some (.ret (.val (.int .i64 r)), s') ∧ (r < 0 ↔ (Ty.sizes suf : Int) ≤ m ∧ allTys tellB suf = true) ∧ AtL L m' s' ∧ Moves [L] [] [] s s' ∧ (r < 0 → m' = m - Ty.sizes suf) ∧ -1 ≤ m' ∧ m' ≤ m
 | [], pre, m, s, i, h, hi, H, hL, h0, h1 => by
   subst hi
   refine ⟨s, m, -1, ?_, ?_, hL, .refl _ _ _, by simp [Ty.sizes], by omega, Int.le_refl _⟩
   ·rw [Qr]; simp only [go_sem, Int.reduceNeg, Qf (by simpa using h)]
   ·simp [Ty.sizes, allTys, h0]
 | t :: suf, pre, m, s, i, h, hi, H, hL, h0, h1 => by
   subst hi
   obtain ⟨f1, f2, f3⟩ := Qc hx h (by omega) (Ty.cells_len t) (by decide)
   obtain ⟨s1, m1, b, e1, d1, l1, v1, q1, b1, b1'⟩ := H t List.mem_cons_self m s hL h0 h1
   have e2 : cw (.f ZX) [t.enc, .cp [.vp L 0]] s = some (.ret (.val (.bool (!b))), s1) := by
    rw [Qb6]
    simp only [go_sem, Nat.reduceAdd, Nat.reduceLeDiff, e1]
   rw [Qr]
   simp only [go_sem, Int.reduceNeg, Nat.reduceLeDiff, f1, f2, f3, e2]
   have hsz : Ty.sizes (t :: suf) = t.size + Ty.sizes suf := rfl
   have hall : allTys tellB (t :: suf) = (allTy tellB t && allTys tellB suf) := rfl
   cases b with
   | true =>
     have hm1 := q1 rfl
     have hd := d1.1 rfl
     obtain ⟨s2, m2, r, e3, d3, l3, v3, q3, b3, b3'⟩ := Qc9 l x hx hl suf (pre ++ [t]) m1 s1 (pre.length + 1) (by simpa using h) (by simp) (fun w hw => H w (List.mem_cons_of_mem _ hw)) l1 (by omega) (by omega)
     refine ⟨s2, m2, r, by simp only [go_sem, e3], ?_, l3, v1.trans v3, fun hr => by rw [q3 hr, hm1, hsz]; omega, b3, by omega⟩
     rw [d3, hsz, hall, hd.2, Bool.true_and, hm1]
     constructor <;> rintro ⟨g1, g2⟩ <;> exact ⟨by omega, g2⟩
   | false =>
     refine ⟨s1, m1, pre.length, by simp only [go_sem], ?_, l1, v1, fun hr => by omega, b1, b1'⟩
     constructor
     ·intro hr; omega
     ·rintro ⟨h2, h3⟩
      rw [hall, Bool.and_eq_true] at h3
      exact absurd (d1.2 ⟨by omega, h3.1⟩) (by simp)
theorem QkK (t : Ty) (HV : ∀ u ∈ t.args, ToldOK L u) (hl : t.args.length < 2^40) (ok : Bool) (m : Int) (s : St) (hL : AtL L m s) (h0 : 0 ≤ m) (h1 : m < 2^40) :
  ∃ s' m' b, Z3 (t.cells.map .val) (.val (.cp [.vp L 0])) (.val (.bool ok)) s = some (.ret (.val (.bool b)), s') ∧ (b = true ↔ ok = true ∧ (Ty.sizes t.args : Int) ≤ m ∧ allTys tellB t.args = true) ∧ AtL L m' s' ∧ Moves [L] [] [] s s' ∧ (b = true → m' = m - Ty.sizes t.args) ∧ -1 ≤ m' ∧ m' ≤ m := by
 have c := Ty.cells_eq t
 rw [Qae]
 cases ok with
 | false =>
   simp only [go_sem, Int.reduceNeg, Nat.reduceAdd, Nat.reduceLeDiff, c]
   exact ⟨s, m, false, rfl, by simp, hL, .refl _ _ _, by simp, by omega, by omega⟩
 | true =>
   obtain ⟨s2, m2, r, e3, d3, l3, v3, q3, b3, b3'⟩ := Qc9 L t.args (.val (encS t.nl (t.args.map Ty.enc))) (Qa _ _) hl t.args [] m s 0 rfl rfl HV hL h0 h1
   have e4 : cw (.f Qm) [encS t.nl (t.args.map Ty.enc), .fn ZX [.cp [.vp L 0]]] s = some (.ret (.val (.bool (decide (r ≥ 0)))), s2) := by
    rw [Zh]
    have : cw (.f QI) [encS t.nl (t.args.map Ty.enc), .fn ZX [.cp [.vp L 0]]] s = some (.ret (.val (.int .i64 r)), s2) := by
     rw [ZD]; simp only [go_sem]
     exact e3
    simp only [go_sem, this]
   refine ⟨s2, m2, !decide (r ≥ 0), by simp only [go_sem, Nat.reduceAdd, Nat.reduceLeDiff, c, e4], ?_, l3, v3, fun hr => ?_, b3, b3'⟩
   ·simp only [Bool.not_eq_true', decide_eq_false_iff_not, true_and]
    rw [← d3]; omega
   ·simp only [Bool.not_eq_true', decide_eq_false_iff_not] at hr
    exact q3 (by omega)
def tellJ (four : Bool) (nm : Str) (len : Nat) : Bool :=
 bif four then decide (len = 0)
 else bif decide (nm = [114, 101, 102]) then decide (len = 1)
 else bif decide (nm = [45, 62]) then decide (len = 2)
 else bif decide (nm = [42]) then decide (2 ≤ len) && decide (len ≤ 8)
 else tokB nm && decide (len ≤ 8)
theorem Q7H (n m : Nat) : decide ((n : Int) = (m : Int)) = decide (n = m) := by
 by_cases h : n = m
 ·subst h; simp
 ·rw [decide_eq_false h, decide_eq_false (by omega)]
theorem QkJ (t : Ty) (hn : t.name.length < 2^60) (four : Bool) (s : St) : ∃ s', Grew s s' ∧ Zq (t.cells.map .val) (.val (.cp [.vp L 0])) (.val (.int .i64 t.args.length)) (.val (.str t.name)) (.val (.bool four)) s = Z3 (t.cells.map .val) (.val (.cp [.vp L 0])) (.val (.bool (tellJ four t.name t.args.length))) s' := by
 have c := Ty.cells_eq t
 have k0 := Q7H t.args.length 0
 have k1 := Q7H t.args.length 1
 have k2 := Q7H t.args.length 2
 have k3 : decide ((t.args.length : Int) ≥ 2) = decide (2 ≤ t.args.length) := by
  by_cases h : 2 ≤ t.args.length
  ·rw [decide_eq_true h, decide_eq_true (by omega)]
  ·rw [decide_eq_false h, decide_eq_false (by omega)]
 have k4 : decide ((t.args.length : Int) ≤ 8) = decide (t.args.length ≤ 8) := by
  by_cases h : t.args.length ≤ 8
  ·rw [decide_eq_true h, decide_eq_true (by omega)]
  ·rw [decide_eq_false h, decide_eq_false (by omega)]
 rw [show ((0 : Nat) : Int) = 0 from rfl] at k0
 rw [show ((1 : Nat) : Int) = 1 from rfl] at k1
 rw [show ((2 : Nat) : Int) = 2 from rfl] at k2
 rw [Qad]
 unfold tellJ
 cases four with
 | true => simp only [go_sem, k0]; exact ⟨s, .refl s, rfl⟩
 | false =>
   cases h1 : decide (t.name = [114, 101, 102]) with
   | true => simp only [go_sem, h1, k1]; exact ⟨s, .refl s, rfl⟩
   | false =>
     cases h2 : decide (t.name = [45, 62]) with
     | true => simp only [go_sem, h1, h2, k2]; exact ⟨s, .refl s, rfl⟩
     | false =>
       cases h3 : decide (t.name = [42]) with
       | true => simp only [go_sem, h1, h2, h3, k3, k4]; exact ⟨s, .refl s, rfl⟩
       | false =>
         obtain ⟨nl, s', e1, g1⟩ := Qcl t.name hn s
         simp only [go_sem, Nat.reduceAdd, Nat.reduceLeDiff, h1, h2, h3, c, e1, badEnc]
         refine ⟨s', g1, ?_⟩
         cases hb : decide ((lxScan t.name).2.1 = 0) with
         | false =>
           have hT : tokB t.name = false := by unfold tokB; rw [hb]; rfl
           simp only [go_sem, hb, hT]
         | true =>
           have z0 : decide (((0 : Nat) : Int) = 1) = false := rfl
           rcases hq : (lxScan t.name).1 with _ | ⟨tk, r⟩
           ·have hT : tokB t.name = false := by unfold tokB; rw [hq]; simp
            simp only [go_sem, hb, hq, List.map_nil, List.length_nil, z0, hT]
           ·cases r with
            | cons u r =>
              have hT : tokB t.name = false := by unfold tokB; rw [hq]; simp
              have z1 : decide (((r.length + 1 + 1 : Nat) : Int) = 1) = false := by simp; omega
              simp only [go_sem, hb, hq, List.map_cons, List.length_cons, List.length_map, z1, hT]
            | nil =>
              obtain ⟨tk, tp, tx, tn⟩ := tk
              have hT : tokB t.name = (decide (tk = 2) && decide (tx = t.name)) := by unfold tokB; rw [hb, hq]; rfl
              have z2 : decide (((0 + 1 : Nat) : Int) = 1) = true := rfl
              have f0 : ixS 4 (.val (.sl [LTok.enc ⟨tk, tp, tx, tn⟩])) (.val (.int .i64 0)) = some (.val (.cp [.int .i64 tk, .int .i64 tp, .str tx, .int .i64 tn])) := by
               have := Q18 (x := .val (.sl [LTok.enc ⟨tk, tp, tx, tn⟩])) (k := .i64) (n := 0) (sz := 4) (l := [LTok.enc ⟨tk, tp, tx, tn⟩]) rfl rfl (LTok.cells_len _) (by decide)
               exact this
              rw [hT]
              simp only [go_sem, Nat.reduceAdd, hb, hq, List.map_cons, List.map_nil, List.length_cons, List.length_nil, z2, f0]
              cases hk : decide (tk = 2) with
              | false => simp only [go_sem, hk]
              | true =>
                cases ht : decide (tx = t.name) with
                | false => simp only [go_sem, hk, ht]
                | true => simp only [go_sem, hk, ht, k4]
theorem Qca : ∀ (k : Nat) (t : Ty), t.size ≤ k → t.size < 2^40 → NamesTy t → ToldOK L t
 | 0, t, h, _, _ => by cases t; simp only [Ty.size] at h; omega
 | k + 1, t, h, h', hn => fun m s hL h0 h1 => by
   have hsz : Ty.sizes t.args + 1 = t.size := by cases t; simp only [Ty.size, Ty.args]
   have hl := Ty.len_sizes t.args
   have hnm : t.name.length < 2^40 := by cases t; exact hn.name
   have HV : ∀ u ∈ t.args, ToldOK L u := fun u hu => by
    cases t with
    | mk kd n nm l nl =>
      have h2 := Ty.mem_sizes hu
      simp only [Ty.args] at hsz hu h2
      exact Qca k u (by omega) (by omega) (hn.arg hu)
   have hall : allTy tellB t = (tellB t && allTys tellB t.args) := by cases t; rfl
   have hL' : AtL L (m - 1) { s with locs := s.locs.set L (.var [.val (.int .i64 (m - 1))]) } := Q5B hL
   have hM' : Moves [L] [] [] s { s with locs := s.locs.set L (.var [.val (.int .i64 (m - 1))]) } := (Moves.refl _ _ _).setLoc (.inl (by simp)) _
   have w1 : IntKind.i64.wrap (m - 1) = m - 1 := wrap64 (by omega) (by omega)
   have hst := Q5E (c := [.val (.int .i64 (m - 1))]) hL (off := 0) (by simp)
   simp only [go_sem, Nat.reduceAdd] at hst
   have c := Ty.cells_eq t
   have j0 := fun four => QkJ L t (by omega) four { s with locs := s.locs.set L (.var [.val (.int .i64 (m - 1))]) }
   have d0 := Q7H t.args.length 0
   rw [show ((0 : Nat) : Int) = 0 from rfl] at d0
   rw [Qel]
   rw [c] at j0
   simp only [go_sem, Int.reduceNeg, Nat.reduceAdd, Nat.reduceLeDiff, c, Zb hL, w1, hst, Zb hL']
   by_cases hm : m - 1 < 0
   ·rw [decide_eq_true hm]
    refine ⟨_, m - 1, false, by simp only [go_sem], ?_, hL', hM', by simp, by omega, by omega⟩
    constructor
    ·intro h; cases h
    ·rintro ⟨g1, _⟩; omega
   ·rw [decide_eq_false hm]
    have dm : ∀ {x : Int}, -1 ≤ x → x ≤ m - 1 → -1 ≤ x ∧ x ≤ m := fun h1 h2 => ⟨h1, by omega⟩
    cases hk : decide (t.kind = 1) with
    | true =>
      have hB : tellB t = (decide (t.n ≥ 0) && (decide (t.n ≤ 1000) && (decide (t.name = []) && decide (t.args.length = 0)))) := by unfold tellB; rw [hk]; rfl
      have hz : tellB t = true → t.args = [] := fun h => by
       rw [hB] at h
       simp only [Bool.and_eq_true, decide_eq_true_eq] at h
       exact List.eq_nil_of_length_eq_zero h.2.2.2
      have hs1 : tellB t = true → t.size = 1 := fun h => by rw [← hsz, hz h]; rfl
      refine ⟨_, m - 1, tellB t, ?_, ?_, hL', hM', fun h => by rw [hs1 h]; rfl, by omega, by omega⟩
      ·rw [hB]
       cases h1 : decide (t.n ≥ 0) with
       | false => simp only [go_sem, hk, h1]
       | true =>
         cases h2 : decide (t.n ≤ 1000) with
         | false => simp only [go_sem, hk, h1, h2]
         | true =>
           cases h3 : decide (t.name = []) with
           | false => simp only [go_sem, hk, h1, h2, h3]
           | true => simp only [go_sem, hk, h1, h2, h3, d0]
      ·rw [hall]
       constructor
       ·intro h
        refine ⟨by rw [hs1 h]; omega, ?_⟩
        rw [h, hz h]; rfl
       ·rintro ⟨_, g2⟩
        simp only [Bool.and_eq_true] at g2
        exact g2.1
    | false =>
      have hB : tellB t = bif !decide (t.kind = 2) || !decide (t.n = 0) then false else tellN t.name t.args.length := by unfold tellB; rw [hk]; rfl
      cases h2 : decide (t.kind = 2) with
      | false =>
        have hF : tellB t = false := by rw [hB, h2]; rfl
        refine ⟨_, m - 1, false, by simp only [go_sem, hk, h2], ?_, hL', hM', by simp, by omega, by omega⟩
        rw [hall, hF]; simp
      | true =>
        cases h3 : decide (t.n = 0) with
        | false =>
          have hF : tellB t = false := by rw [hB, h2, h3]; rfl
          refine ⟨_, m - 1, false, by simp only [go_sem, hk, h2, h3], ?_, hL', hM', by simp, by omega, by omega⟩
          rw [hall, hF]; simp
        | true =>
          have hT : ∀ four, tellN t.name t.args.length = tellJ four t.name t.args.length → ∀ s', Grew { s with locs := s.locs.set L (.var [.val (.int .i64 (m - 1))]) } s' → ∃ s2 m' b, Z3 (t.cells.map .val) (.val (.cp [.vp L 0])) (.val (.bool (tellJ four t.name t.args.length))) s' = some (.ret (.val (.bool b)), s2) ∧ (b = true ↔ (t.size : Int) ≤ m ∧ allTy tellB t = true) ∧ AtL L m' s2 ∧ Moves [L] [] [] s s2 ∧ (b = true → m' = m - t.size) ∧ -1 ≤ m' ∧ m' ≤ m := fun four hf s' g => by
           obtain ⟨s2, m2, b, e2, d2, l2, v2, q2, b2, b2'⟩ := QkK L t HV (by omega) (tellJ four t.name t.args.length) (m - 1) s' (g.loc hL') (by omega) (by omega)
           refine ⟨s2, m2, b, e2, ?_, l2, (hM'.trans (.grew _ _ g)).trans v2, fun h => by rw [q2 h]; omega, b2, by omega⟩
           rw [d2, hall, hB, h2, h3, ← hf]
           simp only [Bool.not_true, Bool.or_self, cond_false, Bool.and_eq_true]
           constructor
           ·rintro ⟨x1, x2, x3⟩; exact ⟨by omega, x1, x3⟩
           ·rintro ⟨x1, x2, x3⟩; exact ⟨x2, by omega, x3⟩
          rw [c] at hT
          have fin : ∀ four, tellN t.name t.args.length = tellJ four t.name t.args.length → ∃ s2 m' b, Zq ([AV.int .i64 t.kind, .int .i64 t.n, .str t.name, encS t.nl (t.args.map Ty.enc)].map .val) (.val (.cp [.vp L 0])) (.val (.int .i64 t.args.length)) (.val (.str t.name)) (.val (.bool four)) { s with locs := s.locs.set L (.var [.val (.int .i64 (m - 1))]) } = some (.ret (.val (.bool b)), s2) ∧ (b = true ↔ (t.size : Int) ≤ m ∧ allTy tellB t = true) ∧ AtL L m' s2 ∧ Moves [L] [] [] s s2 ∧ (b = true → m' = m - t.size) ∧ -1 ≤ m' ∧ m' ≤ m := fun four hf => by
           obtain ⟨s', g, e⟩ := j0 four
           rw [e]
           exact hT four hf s' g
          unfold tellN at fin
          cases n1 : decide (t.name = [105, 110, 116]) with
          | true =>
            obtain ⟨s2, m2, b, e2, r⟩ := fin true (by rw [n1]; rfl)
            exact ⟨s2, m2, b, by simp only [go_sem, hk, h2, h3, n1] at e2 ⊢; exact e2, r⟩
          | false =>
            cases n2 : decide (t.name = [98, 111, 111, 108]) with
            | true =>
              obtain ⟨s2, m2, b, e2, r⟩ := fin true (by rw [n1, n2]; rfl)
              exact ⟨s2, m2, b, by simp only [go_sem, hk, h2, h3, n1, n2] at e2 ⊢; exact e2, r⟩
            | false =>
              cases n3 : decide (t.name = [117, 110, 105, 116]) with
              | true =>
                obtain ⟨s2, m2, b, e2, r⟩ := fin true (by rw [n1, n2, n3]; rfl)
                exact ⟨s2, m2, b, by simp only [go_sem, hk, h2, h3, n1, n2, n3] at e2 ⊢; exact e2, r⟩
              | false =>
                obtain ⟨s2, m2, b, e2, r⟩ := fin (decide (t.name = [101, 120, 110])) (by rw [n1, n2, n3]; rfl)
                exact ⟨s2, m2, b, by simp only [go_sem, hk, h2, h3, n1, n2, n3] at e2 ⊢; exact e2, r⟩
end
end Go.Proofs.YtobelgghegmhhaaGreatDoor