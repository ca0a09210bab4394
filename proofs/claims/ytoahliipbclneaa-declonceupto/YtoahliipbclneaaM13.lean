/- A part of the proof: POnce, SDecl8, PTree2, SRef2, SRef5, SRef8, SRefT1, SRef11, SRef11b, SKnows, SRef13, SLaw11, SRefT2, RDec11, LDeclOnce. -/
import Derived.Test.YtoahliipbclneaaM6
import Derived.Test.YtoahliipbclneaaM7
import Derived.Test.YtoahliipbclneaaM8
import Derived.Test.YtoahliipbclneaaM9
import Derived.Test.YtoahliipbclneaaM10
import Derived.Test.YtoahliipbclneaaM11
import Derived.Test.YtoahliipbclneaaM12
import Derived.Lib.IndexMore
set_option linter.unusedVariables false
set_option linter.unusedSimpArgs false
namespace Go.Proofs.Ytoahliipbclneaa
open Go Go.Am
set_option linter.unusedVariables false
def cnt (nm : Str) (l : List Place) : Nat := (l.filter fun q => decide (q.data = nm)).length
theorem Q94 (nm : Str) (a b : List Place) : cnt nm (a ++ b) = cnt nm a + cnt nm b := by simp [cnt]
theorem QdU {nm : Str} {t u : List Place} (h : TabEq t u) : cnt nm t = cnt nm u := by
 have : ∀ l : List Place, cnt nm l = ((l.map Place.data).filter fun x => decide (x = nm)).length := fun l => by
  rw [List.filter_map, List.length_map]; rfl
 rw [this, this, h.map Place.data fun _ => rfl]
theorem TabEq.take {t u : List Place} (h : TabEq t u) (i : Nat) : TabEq (t.take i) (u.take i) := by
 unfold TabEq at *
 rw [List.map_take, List.map_take, h]
theorem TabEq.at {t u : List Place} (h : TabEq t u) {i : Nat} {p : Place} (hp : t[i]? = some p) : ∃ q, u[i]? = some q ∧ ownP p = ownP q := by
 have h1 : (t.map ownP)[i]? = some (ownP p) := by rw [List.getElem?_map, hp]; rfl
 rw [h, List.getElem?_map] at h1
 cases hu : u[i]? with
 | none => rw [hu] at h1; cases h1
 | some q => rw [hu] at h1; simp only [Option.map_some, Option.some.injEq] at h1; exact ⟨q, rfl, h1.symm⟩
structure Once (T : List Place) : Prop where
 nodup : (T.map Place.name).Nodup
 good : ∀ p ∈ T, ∀ u ∈ preTy p.ty, goodB u = true ∧ (u.kind = 1 → u.n < p.vars)
 num : ∀ i p, T[i]? = some p → p.tag = ((cnt p.data (T.take i) : Nat) : Int)
 of_ : ∀ p ∈ T, p.of_ = if p.data = sExn then 0 else ((cnt p.data T : Nat) : Int)
 adj : ∀ i p q, T[i]? = some q → T[i + 1]? = some p → p.data ≠ sExn → p.tag > 0 → q.data = p.data
theorem Qbh (u : Ty) : goodB (ownTy u) = goodB u := by
 cases u with
 | mk k n s l b => simp only [goodB, ownTy, Ty.kind, Ty.n, Ty.name, Ty.args, Q4W, List.length_map]
theorem Qc8 {t : Ty} {v : Int} (h : ∀ u ∈ preTy (ownTy t), goodB u = true ∧ (u.kind = 1 → u.n < v)) : ∀ u ∈ preTy t, goodB u = true ∧ (u.kind = 1 → u.n < v) := fun u hu => by
 have := h (ownTy u) (by rw [Q9i]; exact List.mem_map_of_mem hu)
 rw [Qbh] at this
 cases u; exact this
theorem Q4c {t : Ty} {v : Int} (h : ∀ u ∈ preTy t, goodB u = true ∧ (u.kind = 1 → u.n < v)) : ∀ u ∈ preTy (ownTy t), goodB u = true ∧ (u.kind = 1 → u.n < v) := fun u hu => by
 rw [Q9i] at hu
 obtain ⟨w, hw, rfl⟩ := List.mem_map.1 hu
 have := h w hw
 rw [Qbh]
 cases w; exact this
theorem Q1d {p q : Place} (h : ownP p = ownP q) : p.name = q.name ∧ p.data = q.data ∧ p.tag = q.tag ∧ p.of_ = q.of_ ∧ p.has = q.has ∧ p.vars = q.vars ∧ ownTy p.ty = ownTy q.ty := by
 simp only [ownP, Place.mk.injEq] at h
 exact h
theorem Once.tab {t T : List Place} (h : TabEq t T) (o : Once T) : Once t where
 nodup := by rw [h.names]; exact o.nodup
 good := fun p hp => by
  obtain ⟨i, hi⟩ := List.getElem?_of_mem hp
  obtain ⟨q, hq, e⟩ := h.at hi
  obtain ⟨-, -, -, -, -, e6, e7⟩ := Q1d e
  rw [e6]
  refine Qc8 ?_
  rw [e7]
  exact Q4c (o.good q (List.mem_of_getElem? hq))
 num := fun i p hp => by
  obtain ⟨q, hq, e⟩ := h.at hp
  obtain ⟨-, e2, e3, -, -, -, -⟩ := Q1d e
  rw [e3, e2, QdU (h.take i)]
  exact o.num i q hq
 of_ := fun p hp => by
  obtain ⟨i, hi⟩ := List.getElem?_of_mem hp
  obtain ⟨q, hq, e⟩ := h.at hi
  obtain ⟨-, e2, -, e4, -, -, -⟩ := Q1d e
  rw [e4, e2, QdU h]
  exact o.of_ q (List.mem_of_getElem? hq)
 adj := fun i p q h1 h2 h3 h4 => by
  obtain ⟨p', hp, e⟩ := h.at h2
  obtain ⟨q', hq, e'⟩ := h.at h1
  obtain ⟨-, e2, e3, -, -, -, -⟩ := Q1d e
  obtain ⟨-, e2', -, -, -, -, -⟩ := Q1d e'
  rw [e2', e2]
  exact o.adj i p' q' hq hp (by rw [← e2]; exact h3) (by rw [← e3]; exact h4)
theorem QdA {u : Ty} (h : wrongTyB u = 0) : goodB u = true := by
 unfold wrongTyB wrongTyC tyLM at h
 unfold goodB goodC givenB
 by_cases h1 : u.kind = 1
 ·simp only [h1, decide_true, cond_true, Int.reduceEq, decide_false, cond_false, Bool.true_and, Bool.false_and, Bool.not_true, Bool.or_false] at h ⊢
  grind
 ·by_cases h2 : u.kind = 2
  ·simp only [h2, decide_true, cond_true, Int.reduceEq, decide_false, cond_false, Bool.true_and, Bool.false_and, Bool.not_true, Bool.not_false, Bool.or_false, Bool.false_or] at h ⊢
   grind
  ·simp only [h1, h2, decide_false, Bool.false_and, Bool.not_false, Bool.and_self, Bool.or_true, cond_true] at h
   cases h
mutual
theorem Q7l (g : Str → Option Int) (v : Int) : ∀ t : Ty, (∀ u ∈ preTy t, u.kind = 1 → u.args = []) → (wrongD g v t).1 = 0 → ∀ u ∈ preTy t, u.kind = 1 → u.n < v
 | .mk k n nm l b, ha, h, u, hu, hk => by
   simp only [wrongD] at h
   simp only [preTy, List.mem_cons] at hu ha
   by_cases h1 : k = 1
   ·subst h1
    rw [if_pos rfl] at h
    have hl : l = [] := ha (.mk 1 n nm l b) (.inl rfl) rfl
    subst hl
    rcases hu with rfl | hu
    ·by_cases hn : n ≥ v
     ·rw [if_pos hn] at h; cases h
     ·simpa [Ty.n] using hn
    ·cases hu
   ·rw [if_neg h1] at h
    rcases hu with rfl | hu
    ·exact absurd hk h1
    ·cases hg : g nm with
     | none => rw [hg] at h; cases h
     | some m =>
       rw [hg] at h
       simp only at h
       by_cases hm : m ≥ 0 ∧ m ≠ (l.length : Int)
       ·rw [if_pos hm] at h; cases h
       ·rw [if_neg hm] at h
        exact Q6l g v l (fun w hw => ha w (.inr hw)) h u hu hk
theorem Q6l (g : Str → Option Int) (v : Int) : ∀ l : List Ty, (∀ u ∈ preTys l, u.kind = 1 → u.args = []) → (wrongsD g v l).1 = 0 → ∀ u ∈ preTys l, u.kind = 1 → u.n < v
 | [], _, _, u, hu, _ => by cases hu
 | t :: l, ha, h, u, hu, hk => by
   simp only [wrongsD] at h
   simp only [preTys, List.mem_append] at hu ha
   by_cases ht : (wrongD g v t).1 = 0
   ·rw [if_neg (by simpa using ht)] at h
    rcases hu with hu | hu
    ·exact Q7l g v t (fun w hw => ha w (.inl hw)) ht u hu hk
    ·exact Q6l g v l (fun w hw => ha w (.inr hw)) h u hu hk
   ·rw [if_pos ht] at h; exact absurd h ht
end
theorem Qd0 {i : Bool} {d : Dec} {c : Con} (h : c ∈ d.cons) (hh : c.has = true) {u : Ty} (hu : u ∈ preTy c.arg) : .ty u c.at_ ∈ nodesDec i d := by
 have hn : .ty u c.at_ ∈ nodesTy c.at_ c.arg := by rw [Q0A]; exact List.mem_map.2 ⟨u, hu, rfl⟩
 have : ∀ l : List Con, c ∈ l → .ty u c.at_ ∈ nodesCons l := fun l => by
  induction l with
  | nil => intro h; cases h
  | cons x l ih =>
    intro h
    simp only [nodesCons, List.mem_append]
    rcases List.mem_cons.1 h with rfl | h
    ·left; simp only [nodesCon, hh, cond_true]; exact List.mem_cons_of_mem _ hn
    ·exact .inr (ih h)
 cases d with
 | mk k a s p l lb cs cb f fb =>
   simp only [nodesDec]
   exact List.mem_cons_of_mem _ (List.mem_append_right _ (List.mem_append_right _ (this l h)))
theorem Qeh {i : Nat} {v : Int} (h : (i : Int) < v) : ∀ u ∈ preTy (tvar (i : Int)), goodB u = true ∧ (u.kind = 1 → u.n < v) := by
 intro u hu
 simp only [tvar, preTy, preTys, List.mem_cons, List.not_mem_nil, or_false] at hu
 subst hu
 refine ⟨?_, fun _ => h⟩
 simp only [goodB, goodC, Ty.kind, Ty.n, Ty.name, Ty.args, decide_true, cond_true, List.length_nil, Int.natCast_zero, Bool.and_true]
 exact decide_eq_true (by omega)
theorem Q8i {u : Ty} : ∀ {l : List Ty}, u ∈ preTys l → ∃ t ∈ l, u ∈ preTy t
 | t :: l, h => by
   simp only [preTys, List.mem_append] at h
   rcases h with h | h
   ·exact ⟨t, List.mem_cons_self, h⟩
   ·obtain ⟨w, hw, hu⟩ := Q8i h; exact ⟨w, List.mem_cons_of_mem _ hw, hu⟩
theorem Qeg {nm : Str} {l : List Ty} {b : Bool} (hl : (l.length : Int) ≤ 8) (hlow : lowB nm = true) (hg : givenR nm = false) : goodB (.mk 2 0 nm l b) = true := by
 have hb : givenB nm = (0, 8, false) := by
  simp only [givenR, Bool.or_eq_false_iff, sInt, sBool, sUnit, sExn, sRef, sArrow, sStar] at hg
  obtain ⟨⟨⟨⟨⟨⟨h1, h2⟩, h3⟩, h4⟩, h5⟩, h6⟩, h7⟩ := hg
  simp only [givenB, of_decide_eq_false h1, of_decide_eq_false h2, of_decide_eq_false h3, of_decide_eq_false h4, of_decide_eq_false h5, of_decide_eq_false h6, of_decide_eq_false h7, decide_false, Bool.or_self, cond_false]
 simp only [goodB, goodC, Ty.kind, Ty.n, Ty.name, Ty.args, Int.reduceEq, decide_false, decide_true, cond_false, cond_true, hb, hlow, Bool.or_true, Bool.and_true, Bool.true_and, Bool.and_eq_true, decide_eq_true_eq]
 omega
theorem Qfg {d : Dec} (h : d.kind = 3 ∧ d.params ≤ 8 ∧ lowB d.name = true ∧ givenR d.name = false) : ∀ u ∈ preTy (resR d), goodB u = true ∧ (u.kind = 1 → u.n < d.params) := by
 obtain ⟨h3, h8, hlow, hg⟩ := h
 intro u hu
 simp only [resR, h3, Int.reduceEq, decide_false, decide_true, cond_false, cond_true, preTy, List.mem_cons] at hu
 rcases hu with rfl | hu
 ·refine ⟨Qeg ?_ hlow hg, fun hk => by cases hk⟩
  simp only [varsTy, List.length_map, List.length_range]; omega
 ·obtain ⟨t, ht, hu⟩ := Q8i hu
  obtain ⟨i, hi, rfl⟩ := List.mem_map.1 ht
  simp only [List.mem_range] at hi
  exact Qeh (by omega) u hu
theorem Qff {v : Int} : ∀ u ∈ preTy (ofTy sExn []), goodB u = true ∧ (u.kind = 1 → u.n < v) := by
 intro u hu
 simp only [ofTy, List.map_nil, preTy, preTys, List.mem_cons, List.not_mem_nil, or_false] at hu
 subst hu
 exact ⟨by decide, fun hk => by cases hk⟩
theorem Qgu {a r : Ty} {v : Int} (ha : ∀ u ∈ preTy a, goodB u = true ∧ (u.kind = 1 → u.n < v)) (hr : ∀ u ∈ preTy r, goodB u = true ∧ (u.kind = 1 → u.n < v)) : ∀ u ∈ preTy (fnTy a r), goodB u = true ∧ (u.kind = 1 → u.n < v) := by
 intro u hu
 simp only [fnTy, ofTy, List.map_cons, List.map_nil, preTy, preTys, List.append_nil, List.mem_cons, List.mem_append] at hu
 rcases hu with rfl | hu | hu
 ·exact ⟨by simp [goodB, goodC, givenB, Ty.kind, Ty.n, Ty.name, Ty.args], fun hk => by cases hk⟩
 ·exact Q4c ha u hu
 ·exact Q4c hr u hu
theorem Q2r {res : Ty} {vars : Int} {data : Str} {of_ : Int} (hr : ∀ u ∈ preTy res, goodB u = true ∧ (u.kind = 1 → u.n < vars)) (hp : putTy res [] = res) : ∀ (l : List Con) (tag : Int), (∀ c ∈ l, c.has = true → ∀ u ∈ preTy c.arg, goodB u = true ∧ (u.kind = 1 → u.n < vars)) → ∀ p ∈ newD res vars data of_ l tag, (∀ u ∈ preTy p.ty, goodB u = true ∧ (u.kind = 1 → u.n < p.vars)) ∧ p.data = data ∧ p.of_ = of_
 | [], _, _, p, hp' => by cases hp'
 | c :: l, tag, h, p, hp' => by
   simp only [newD, List.mem_cons] at hp'
   rcases hp' with rfl | hp'
   ·refine ⟨?_, rfl, rfl⟩
    simp only [conPlace]
    cases hh : c.has with
    | true => exact Qgu (h c List.mem_cons_self hh) hr
    | false => rw [cond_false, hp]; exact hr
   ·exact Q2r hr hp l (tag + 1) (fun x hx => h x (List.mem_cons_of_mem _ hx)) p hp'
theorem Q6p {res : Ty} {vars : Int} {data : Str} {of_ : Int} : ∀ (l : List Con) (tag : Int) (j : Nat) (p : Place), (newD res vars data of_ l tag)[j]? = some p → p.tag = tag + j ∧ p.data = data
 | [], _, j, p, h => by simp [newD] at h
 | c :: l, tag, 0, p, h => by
   simp only [newD, List.getElem?_cons_zero, Option.some.injEq] at h
   subst h
   exact ⟨by simp [conPlace], rfl⟩
 | c :: l, tag, j + 1, p, h => by
   simp only [newD, List.getElem?_cons_succ] at h
   obtain ⟨h1, h2⟩ := Q6p l (tag + 1) j p h
   exact ⟨by rw [h1]; omega, h2⟩
theorem Q8j (res : Ty) (vars : Int) (data : Str) (of_ : Int) : ∀ (l : List Con) (tag : Int), (newD res vars data of_ l tag).map Place.name = l.map Con.name
 | [], _ => rfl
 | c :: l, tag => by simp only [newD, List.map_cons, Q8j res vars data of_ l]; rfl
theorem Qct {nm : Str} {l : List Place} (h : ∀ p ∈ l, p.data = nm) : cnt nm l = l.length := by
 unfold cnt
 rw [List.filter_eq_self.2 fun p hp => by simp [h p hp]]
theorem Q4H {nm : Str} {l : List Place} (h : ∀ p ∈ l, p.data ≠ nm) : cnt nm l = 0 := by
 unfold cnt
 rw [List.filter_eq_nil_iff.2 fun p hp => by simp [h p hp]]; rfl
theorem Q6P : ∀ {l : List Con} {met : List Str}, Fresh l met → met.Nodup → (met ++ l.map Con.name).Nodup
 | [], met, _, h => by simpa using h
 | c :: l, met, hf, h => by
   have := Q6P hf.2 (by
    rw [List.nodup_append]
    refine ⟨h, by simp, fun a ha b hb => ?_⟩
    simp only [List.mem_singleton] at hb
    subst hb
    intro e; subst e; exact hf.1 ha)
   simpa using this
theorem Once.add {T : List Place} (o : Once T) {res : Ty} {vars : Int} {data : Str} {of_ tag : Int} {l : List Con} (hf : Fresh l (T.map Place.name)) (hr : ∀ u ∈ preTy res, goodB u = true ∧ (u.kind = 1 → u.n < vars)) (hp : putTy res [] = res) (hc : ∀ c ∈ l, c.has = true → ∀ u ∈ preTy c.arg, goodB u = true ∧ (u.kind = 1 → u.n < vars))
  (ht : tag = ((cnt data T : Nat) : Int)) (ho : of_ = if data = sExn then 0 else ((cnt data T + l.length : Nat) : Int)) (hnew : data = sExn ∨ ∀ p ∈ T, p.data ≠ data) : Once (T ++ newD res vars data of_ l tag) where
 nodup := by rw [List.map_append, Q8j]; exact Q6P hf o.nodup
 good := fun p hp' => by
  rcases List.mem_append.1 hp' with hp' | hp'
  ·exact o.good p hp'
  ·exact (Q2r hr hp l tag hc p hp').1
 num := fun i p h => by
  by_cases hi : i < T.length
  ·rw [List.getElem?_append_left hi] at h
   rw [List.take_append_of_le_length (by omega)]
   exact o.num i p h
  ·rw [List.getElem?_append_right (by omega)] at h
   obtain ⟨h1, h2⟩ := Q6p l tag _ p h
   have hlt : i - T.length < (newD res vars data of_ l tag).length := (List.getElem?_eq_some_iff.1 h).1
   have hall : ∀ q ∈ (newD res vars data of_ l tag).take (i - T.length), q.data = data := fun q hq => (Q2r hr hp l tag hc q (List.mem_of_mem_take hq)).2.1
   rw [List.take_append, List.take_of_length_le (by omega), Q94, h2, Qct hall, List.length_take, h1]
   omega
 of_ := fun p hp' => by
  have hall : ∀ q ∈ newD res vars data of_ l tag, q.data = data := fun q hq => (Q2r hr hp l tag hc q hq).2.1
  rcases List.mem_append.1 hp' with hp' | hp'
  ·have := o.of_ p hp'
   rw [this, Q94]
   by_cases hx : p.data = sExn
   ·rw [if_pos hx, if_pos hx]
   ·rw [if_neg hx, if_neg hx]
    have : cnt p.data (newD res vars data of_ l tag) = 0 := Q4H fun q hq => by
     rw [hall q hq]
     rcases hnew with e | e
     ·rw [e]; exact Ne.symm hx
     ·exact Ne.symm (e p hp')
    omega
  ·obtain ⟨-, h2, h3⟩ := Q2r hr hp l tag hc p hp'
   rw [h3, h2, Q94, Qct hall, Qbn]
   exact ho
 adj := fun i p q h1 h2 h3 h4 => by
  by_cases hi : i + 1 < T.length
  ·rw [List.getElem?_append_left hi] at h2
   rw [List.getElem?_append_left (by omega)] at h1
   exact o.adj i p q h1 h2 h3 h4
  ·rw [List.getElem?_append_right (by omega)] at h2
   obtain ⟨k1, k2⟩ := Q6p l tag _ p h2
   by_cases hb : i < T.length
   ·have hd : data ≠ sExn := by rw [← k2]; exact h3
    rcases hnew with e | e
    ·exact absurd e hd
    ·rw [Q4H e] at ht
     have : i + 1 - T.length = 0 := by omega
     rw [this] at k1
     simp at k1
     omega
   ·rw [List.getElem?_append_right (by omega)] at h1
    obtain ⟨k3, k4⟩ := Q6p l tag _ q h1
    rw [k4, k2]
theorem Once.addD {T : List Place} (o : Once T) {d : Dec} (hd : okD d = true) (hz : (addD T d).2.kind = 0) : Once (addD T d).1 := by
 have D := Qi7 hd
 have hr := Qeu hd
 have hcon : ∀ (g : Str → Option Int) (v : Int), (∀ c ∈ d.cons, c.has = true → (wrongD g v c.arg).1 = 0) → ∀ c ∈ d.cons, c.has = true → ∀ u ∈ preTy c.arg, goodB u = true ∧ (u.kind = 1 → u.n < v) := fun g v hw c hc hh u hu => by
  have hn : ∀ w ∈ preTy c.arg, wrongTyB w = 0 := fun w hw' => hr _ (Qd0 hc hh hw')
  exact ⟨QdA (hn u hu), Q7l g v c.arg (fun w hw' hk => ((Ql4 (hn w hw')).2.1 hk).1) (hw c hc hh) u hu⟩
 cases (Qgf hz).2 with
 | other k3 k4 hu => rw [hu]; exact o
 | data k3 hk hu hf hw =>
   obtain ⟨hg, hn⟩ := Qdc hk
   have hex := Qef hg
   rw [hu, Qfh d (.inl k3)]
   have h5 := (D.data k3).2.2
   exact o.add hf (Qfg ⟨k3, h5.2.1, h5.2.2.1, hg⟩) (QcO d (.inl k3)) (hcon _ _ hw) (by rw [Q4H hn]; rfl) (by rw [if_neg hex, Q4H hn]; simp) (.inr hn)
 | exn k4 hu hf hw =>
   have hres : resR d = ofTy sExn [] := by simp [resR, k4]
   rw [hu]
   exact o.add hf Qff (by rw [← hres]; exact QcO d (.inr k4)) (hcon _ _ hw) rfl (by rw [if_pos rfl]) (.inl rfl)
theorem Once.ofD : ∀ (P : List Dec) {T : List Place}, Once T → (∀ d ∈ P, okD d = true) → (ofD P T).2.kind = 0 → Once (ofD P T).1
 | [], T, o, _, _ => o
 | d :: P, T, o, hd, hz => by
   simp only [Go.Proofs.Ytoahliipbclneaa.ofD] at hz ⊢
   by_cases h : (Go.Proofs.Ytoahliipbclneaa.addD T d).2.kind = 0
   ·rw [if_neg (show ¬ ((Go.Proofs.Ytoahliipbclneaa.addD T d).2.kind ≠ 0) from fun x => x h)] at hz ⊢
    exact Once.ofD P (o.addD (hd d List.mem_cons_self) h) (fun x hx => hd x (List.mem_cons_of_mem _ hx)) hz
   ·rw [if_pos h] at hz; exact absurd hz h
theorem Qdj : Once startD where
 nodup := by decide
 good := fun p hp u hu => by
  simp only [startD, List.mem_cons, List.not_mem_nil, or_false] at hp
  rcases hp with rfl | rfl | rfl | rfl | rfl | rfl <;> (
   simp only [placeD, ofTy, List.map_nil, preTy, preTys, List.mem_cons, List.not_mem_nil, or_false] at hu
   subst hu
   exact ⟨by decide, fun hk => by cases hk⟩)
 num := fun i p h => by
  match i, h with
  | 0, h | 1, h | 2, h | 3, h | 4, h | 5, h => cases h; decide
  | n + 6, h => simp [startD] at h
 of_ := fun p hp => by
  simp only [startD, List.mem_cons, List.not_mem_nil, or_false] at hp
  rcases hp with rfl | rfl | rfl | rfl | rfl | rfl <;> decide
 adj := fun i p q h1 h2 h3 h4 => by
  match i, h1, h2 with
  | 0, h1, h2 | 1, h1, h2 | 2, h1, h2 | 3, h1, h2 | 4, h1, h2 =>
    cases h1; cases h2
    first | rfl | (exfalso; revert h3; decide) | (exfalso; revert h4; decide)
  | n + 5, h1, h2 => simp [startD] at h2
theorem Qdn {t : List Place} (h : rightTD t = true) : Once t := by
 obtain ⟨h1, h2, h3, h4⟩ := Qdm h
 exact Once.tab h4 (Once.ofD _ Qdj h2 h3)
theorem Qd9 {t : List Place} (h : (t.map Place.name).Nodup) {p : Place} (hp : p ∈ t) : findD p.name t = some p := by
 induction t with
 | nil => cases hp
 | cons q t ih =>
   simp only [List.map_cons, List.nodup_cons] at h
   simp only [findD]
   rcases List.mem_cons.1 hp with rfl | hp
   ·rw [if_pos rfl]
   ·rw [if_neg (fun e : q.name = p.name => h.1 (by rw [e]; exact List.mem_map_of_mem hp))]; exact ih h.2 hp
def dataL (nm : Str) (t : List Place) : List Place := t.filter fun q => decide (q.data = nm)
theorem Q9K (nm : Str) : ∀ (t : List Place) (i : Nat) (p : Place), t[i]? = some p → p.data = nm → (dataL nm t)[cnt nm (t.take i)]? = some p
 | [], i, p, h, _ => by simp at h
 | q :: t, 0, p, h, hd => by
   simp only [List.getElem?_cons_zero, Option.some.injEq] at h
   subst h
   simp [dataL, cnt, hd]
 | q :: t, i + 1, p, h, hd => by
   have ih := Q9K nm t i p (by simpa using h) hd
   unfold dataL cnt at *
   rw [List.take_succ_cons]
   by_cases hq : q.data = nm
   ·simp only [List.filter_cons, hq, decide_true, if_true, List.length_cons, List.getElem?_cons_succ]; exact ih
   ·simp only [List.filter_cons, hq, decide_false, Bool.false_eq_true, if_false]; exact ih
end Go.Proofs.Ytoahliipbclneaa
namespace Go.Proofs.Ytoahliipbclneaa
open Go Go.Am
set_option linter.unusedVariables false
set_option maxRecDepth 4000
theorem Q2b (data : Str) (t : List Place) (hl : t.length < 2^28) (hw : ∀ p ∈ t, WideTy p.ty) (y : Slot) (hy : y.list? = some (t.map Place.enc)) (s0 : St) : ∀ (suf pre A : List Place) (x : Slot) (s : St) (i : Nat), AccR Q5 s0 s x (A.map Place.enc) → A.length ≤ pre.length → pre ++ suf = t → i = pre.length →
  RetA (Q06 (.val (.str data)) x y (.val (.int .i64 t.length)) (.val (.int .i64 i)) s) Q5 s0 ((A ++ dataL data suf).map Place.enc)
 | [], pre, A, x, s, i, ha, hA, h, hi => by
   subst hi
   have h0 : A ++ dataL data [] = A := by simp [dataL]
   rw [h0, Q3H]; simp only [go_sem, Qa (by simpa using h)]
   exact ⟨x, s, rfl, ha⟩
 | p :: suf, pre, A, x, s, i, ha, hA, h, hi => by
   subst hi
   obtain ⟨f1, f2, f3⟩ := Q9 hy h (by omega) (Place.cells_len p) (by decide)
   have hlen : pre.length < t.length := by rw [← h]; simp
   rw [Q3H]
   by_cases hd : p.data = data
   ·obtain ⟨s1, e1, g1⟩ := Q0F _ p.ty (Nat.le_refl _) (hw p (by rw [← h]; simp)) s
    obtain ⟨x2, s2, e2, a2⟩ := placeAcc (ha.move g1) p (by omega)
    have ih := Q2b data t hl hw y hy s0 suf (pre ++ [p]) (A ++ [p]) x2 s2 (pre.length + 1) a2 (by simp only [List.length_append, List.length_singleton]; omega) (by simpa using h) (by simp)
    have hf : dataL data (p :: suf) = p :: dataL data suf := by simp [dataL, hd]
    rw [hf]
    rw [List.append_assoc, List.singleton_append, List.map_append, List.map_cons] at ih
    simp only [Ty.enc, Ty.cells_eq] at e1
    simp only [Place.enc, Place.cells_eq] at e2
    simp only [hd] at e2
    simp only [go_sem, Nat.reduceAdd, Nat.reduceLeDiff, f1, f2, f3, Place.cells_eq, List.map_cons, List.map_nil, hd, decide_true, e1, e2]
    exact ih
   ·have ih := Q2b data t hl hw y hy s0 suf (pre ++ [p]) A x s (pre.length + 1) ha (by simp only [List.length_append, List.length_singleton]; omega) (by simpa using h) (by simp)
    have hf : dataL data (p :: suf) = dataL data suf := by simp [dataL, hd]
    rw [hf]
    rw [List.map_append] at ih
    simp only [go_sem, Nat.reduceAdd, Nat.reduceLeDiff, f1, f2, f3, Place.cells_eq, List.map_cons, List.map_nil, decide_eq_false hd]
    exact ih
theorem Q99 (data : Str) (t : List Place) (hl : t.length < 2^28) (hw : ∀ p ∈ t, WideTy p.ty) (v : AV) (hv : (Slot.val v).list? = some (t.map Place.enc)) (s : St) : RetA (cw (.f Q2g) [v, .str data] s) Q5 s ((dataL data t).map Place.enc) := by
 have e1 := Q2b data t hl hw (.val v) hv s t [] [] (.val .nils) s 0 (AccR.nil _ _) (Nat.le_refl _) rfl rfl
 rw [show ((0 : Nat) : Int) = 0 from rfl, List.nil_append] at e1
 rw [QaW]
 simp only [go_sem, hv, List.length_map]
 exact e1
end Go.Proofs.Ytoahliipbclneaa
namespace Go.Am
open Go
theorem QaV (sub : List UInt8) : Go.Lib.contains [] sub = sub.isEmpty := by
 unfold Go.Lib.contains Go.Lib.index
 cases sub.isEmpty <;> rfl
theorem Q2C (c : UInt8) (s sub : List UInt8) : Go.Lib.contains (c :: s) sub = (sub.isPrefixOf (c :: s) || Go.Lib.contains s sub) := by
 have h := Go.Lib.index_ge s sub
 unfold Go.Lib.contains
 rw [Go.Lib.index]
 cases sub.isPrefixOf (c :: s) with
 | true => rfl
 | false =>
   simp only [Bool.false_eq_true, if_false, Bool.false_or]
   by_cases h1 : Go.Lib.index s sub = -1
   ·rw [h1]; rfl
   ·have h2 : (Go.Lib.index s sub == -1) = false := by simpa using h1
    rw [h2]
    simp only [Bool.false_eq_true, if_false]
    congr 1
    rw [eq_iff_iff]
    omega
theorem Qa8 : ∀ (w T x : List UInt8), (∀ c ∈ w, c ≠ 32) → Go.Lib.contains (w ++ T) (32 :: x) = Go.Lib.contains T (32 :: x)
 | [], _, _, _ => rfl
 | c :: w, T, x, h => by
   have hc : ((32 : UInt8) == c) = false := by have := h c (by simp); rw [beq_eq_false_iff_ne]; exact fun e => this e.symm
   rw [List.cons_append, Q2C, List.isPrefixOf, hc, Bool.false_and, Bool.false_or]
   exact Qa8 w T x fun d hd => h d (List.mem_cons_of_mem _ hd)
theorem Q74 : ∀ (l w T : List UInt8), (∀ c ∈ l, c ≠ 32) → (∀ c ∈ w, c ≠ 32) → (l ++ [32]).isPrefixOf (w ++ 32 :: T) = decide (l = w)
 | [], [], T, _, _ => by simp [List.isPrefixOf]
 | [], c :: w, T, _, h => by
   have hc : ((32 : UInt8) == c) = false := by have := h c (by simp); rw [beq_eq_false_iff_ne]; exact fun e => this e.symm
   simp [List.isPrefixOf, hc]
 | a :: l, [], T, h, _ => by
   have hc : (a == (32 : UInt8)) = false := by have := h a (by simp); rw [beq_eq_false_iff_ne]; exact this
   simp [List.isPrefixOf, hc]
 | a :: l, c :: w, T, h, g => by
   have ih := Q74 l w T (fun d hd => h d (List.mem_cons_of_mem _ hd)) (fun d hd => g d (List.mem_cons_of_mem _ hd))
   rw [List.cons_append, List.cons_append, List.isPrefixOf, ih]
   by_cases hac : a = c
   ·subst hac; simp
   ·have : (a == c) = false := by rw [beq_eq_false_iff_ne]; exact hac
    simp [this, hac]
theorem QcS (l : Str) (hl : ∀ c ∈ l, c ≠ 32) : ∀ ws : List Str, (∀ w ∈ ws, ∀ c ∈ w, c ≠ 32) → Go.Lib.contains (32 :: (ws.flatMap fun w => w ++ [32])) (32 :: (l ++ [32])) = ws.any fun w => decide (l = w)
 | [], _ => by
   rw [List.flatMap_nil, Q2C, QaV]
   cases l <;> simp [List.isPrefixOf]
 | w :: ws, h => by
   have hw := h w (by simp)
   have e : (w :: ws).flatMap (fun w => w ++ [32]) = w ++ 32 :: (ws.flatMap fun w => w ++ [32]) := by simp
   rw [e, Q2C, List.isPrefixOf, beq_self_eq_true, Bool.true_and, Q74 l w _ hl hw, Qa8 w _ _ hw, QcS l hl ws fun v hv => h v (List.mem_cons_of_mem _ hv), List.any_cons]
def wordsAll : List Str := wordsR ++ [[116, 114, 117, 101], [102, 97, 108, 115, 101], [95]]
theorem QfU : wordsS = 32 :: (wordsAll.flatMap fun w => w ++ [32]) := by decide +kernel
theorem Qcp : ∀ w ∈ wordsAll, ∀ c ∈ w, c ≠ 32 := by decide +kernel
theorem QgG (n : Int) : restR n = !unrestB n := by
 simp only [restR, unrestB, smallB, greatB]
 by_cases h1 : n ≥ 97 <;> by_cases h2 : n ≤ 122 <;> by_cases h3 : n = 95 <;> by_cases h4 : n ≥ 65 <;> by_cases h5 : n ≤ 90 <;> by_cases h6 : n < 48 <;> by_cases h7 : n > 57 <;> by_cases h8 : n = 39 <;> simp [h1, h2, h3, h4, h5, h6, h7, h8] <;> omega
theorem Qa7 (l : Str) (cap : Bool) : shapedR l cap = (!decide (l = []) && letterR (headB l) cap && runB l) := by
 have e : ((l.drop 1).all fun c => restR c.toNat) = restAll (l.drop 1) := by
  unfold restAll
  congr 1
  funext c
  exact QgG _
 unfold shapedR runB
 rw [e]
 have e1 : decide ((l.length : Int) < 1) = decide (l = []) := by cases l <;> simp; omega
 have e2 : decide ((l.length : Int) > 32) = !decide (l.length ≤ 32) := by
  by_cases h : l.length ≤ 32
  ·rw [decide_eq_true h, decide_eq_false (by omega)]; rfl
  ·rw [decide_eq_false h, decide_eq_true (by omega)]; rfl
 rw [e1, e2]
 cases decide (l = []) <;> cases decide (l.length ≤ 32) <;> cases letterR (headB l) cap <;> cases restAll (l.drop 1) <;> rfl
theorem Qfw (l : Str) (h : shapedR l false = true) : ∀ c ∈ l, c ≠ 32 := by
 rw [Qa7] at h
 simp only [Bool.and_eq_true] at h
 obtain ⟨⟨h0, h1⟩, h2⟩ := h
 cases l with
 | nil => intro c hc; cases hc
 | cons a l =>
   intro c hc e
   subst e
   rcases List.mem_cons.1 hc with rfl | hc
   ·change letterR 32 false = true at h1
    revert h1; decide
   ·simp only [runB, Bool.and_eq_true, restAll, List.drop_one, List.tail_cons, List.all_eq_true] at h2
    have := h2.1 32 hc
    revert this; decide
theorem Qi6 (l : Str) : lowR l = lowB l := by
 unfold lowR
 have e : lowB l = (shapedR l false && !Go.Lib.contains wordsS (32 :: (l ++ [32]))) := by rw [Qa7]; rfl
 rw [e]
 cases hs : shapedR l false with
 | false => rfl
 | true =>
   rw [QfU, QcS l (Qfw l hs) wordsAll Qcp]
   unfold wordsAll amongR
   rw [List.any_append]
   have e3 : (wordsR.any fun w => decide (w = l)) = wordsR.any fun w => decide (l = w) := by congr 1; funext w; congr 1; rw [eq_iff_iff]; exact eq_comm
   rw [e3]
   simp only [List.any_cons, List.any_nil]
   cases (wordsR.any fun w => decide (l = w)) <;> cases decide (l = [95]) <;> cases decide (l = [116, 114, 117, 101]) <;> cases decide (l = [102, 97, 108, 115, 101]) <;> rfl
end Go.Am
namespace Go.Proofs.Ytoahliipbclneaa
open Go Go.Am
set_option linter.unusedVariables false
set_option maxRecDepth 4000
def argsR (nm : Str) : Int × Int :=
 bif decide (nm = [105, 110, 116]) || decide (nm = [98, 111, 111, 108]) || decide (nm = [117, 110, 105, 116]) || decide (nm = [101, 120, 110]) then (0, 0) else bif decide (nm = [114, 101, 102]) then (1, 1) else bif decide (nm = [45, 62]) then (2, 2) else bif decide (nm = [42]) then (2, 8) else (0, 8)
theorem Q8w (nm : Str) (s : St) : cw (.f Q1z) [.str nm] s = some (.ret (.val (.tup [.int .i64 (argsR nm).1, .int .i64 (argsR nm).2])), s) := by
 rw [Qaw]
 simp only [go_sem, Q7z]
 delta argsR
 generalize decide (nm = [105, 110, 116]) = x1
 generalize decide (nm = [98, 111, 111, 108]) = x2
 generalize decide (nm = [117, 110, 105, 116]) = x3
 generalize decide (nm = [101, 120, 110]) = x4
 generalize decide (nm = [114, 101, 102]) = x5
 generalize decide (nm = [45, 62]) = x6
 generalize decide (nm = [42]) = x7
 cases x1 <;> cases x2 <;> cases x3 <;> cases x4 <;> cases x5 <;> cases x6 <;> cases x7 <;> rfl
end Go.Proofs.Ytoahliipbclneaa
namespace Go.Proofs.Ytoahliipbclneaa
open Go Go.Am
set_option linter.unusedVariables false
set_option maxRecDepth 4000
abbrev Nodes (r : Res) (s : St) (l : List TNode) : Prop := RetA r Ql s (l.map TNode.enc)
abbrev NAcc (s0 s : St) (x : Slot) (l : List TNode) : Prop := AccR Ql s0 s x (l.map TNode.enc)
theorem nacc {s0 s : St} {x y : Slot} {A B : List TNode} (h : NAcc s0 s x A) (hy : y.list? = some (B.map TNode.enc)) (b : A.length + B.length < 2^30) : ∃ x' s', appendS Ql (C.ti Ql) s x y = some (x', s') ∧ NAcc s0 s' x' (A ++ B) :=
 AccR.appendF h hy (fun a => by rw [Q2I]; exact TNode.cells_len a) (by rw [Q2I]; decide) b (by rw [Q5v]; decide)
theorem Q3U (a : Int) (t : Ty) (hl : t.args.length < 2^40) (s0 : St) : ∀ (suf pre : List Ty) (A : List TNode) (x : Slot) (s : St) (i : Nat), NAcc s0 s x A → pre ++ suf = t.args → i = pre.length → (∀ t ∈ suf, ∀ s, Nodes (cw (.f Zb) [t.enc, .int .i64 a] s) s (nodesTy a t)) → A.length + Ty.sizes suf < 2^30 →
  Nodes (Q0t (.val (.int .i64 a)) (t.cells.map .val) x (.val (.int .i64 i)) s) s0 (A ++ nodesTys a suf)
 | [], pre, A, x, s, i, hx, h, hi, H, hb => by
   subst hi
   rw [Q3q]; simp only [go_sem, Nat.reduceAdd, Nat.reduceLeDiff, Ty.cells_eq, Qa (by simpa using h), nodesTys]
   exact RetA.mk hx
 | u :: suf, pre, A, x, s, i, hx, h, hi, H, hb => by
   subst hi
   obtain ⟨f1, f2, f3⟩ := Q9 (x := .val (encS t.nl (t.args.map Ty.enc))) (Qk _ _) h (by omega) (Ty.cells_len u) (by decide)
   obtain ⟨y, s1, e1, g1⟩ := H u (List.mem_cons_self) s
   have hlen := Q4a a u
   simp only [Ty.sizes] at hb
   obtain ⟨x', s2, e2, g2⟩ := nacc (hx.move g1.grew) g1.list? (by omega)
   have := Q3U a t hl s0 suf (pre ++ [u]) (A ++ nodesTy a u) x' s2 (pre.length + 1) g2 (by simpa using h) (by simp) (fun w hw => H w (List.mem_cons_of_mem _ hw)) (by rw [List.length_append]; omega)
   rw [Q3q]; rw [Ty.cells_eq] at this ⊢; simp only [go_sem, Nat.reduceAdd, Nat.reduceLeDiff, f1, f2, f3, e1, e2] at this ⊢
   simp only [nodesTys]
   exact this
theorem Q3V : ∀ (m : Nat) (a : Int) (t : Ty) (s : St), t.size ≤ m → t.size < 2^28 → Nodes (cw (.f Zb) [t.enc, .int .i64 a] s) s (nodesTy a t)
 | 0, a, .mk _ _ _ _ _, _, h, _ => by simp only [Ty.size] at h; omega
 | m + 1, a, .mk k n nm l nl, s, h, h' => by
   simp only [Ty.size] at h h'
   have hl := Ty.len_sizes l
   have := Q3U a (.mk k n nm l nl) (by simp only [Ty.args]; omega) s l [] [.ty (.mk k n nm l nl) a] (.full [(TNode.ty (.mk k n nm l nl) a).enc]) s 0 (AccR.full _ _ _) rfl rfl (fun u hu s => by have := Ty.mem_sizes hu; exact Q3V m a u s (by omega) (by omega)) (by simp only [List.length_singleton]; omega)
   rw [Qax]; simp only [go_sem, Nat.reduceAdd, Nat.reduceLeDiff, Ty.enc, TNode.cells, Dec.zero, Exp.zero, Pat.zero, Fun.zero, Case.zero, Con.zero, Ty.zero, Con.cells, TNode.enc, nodesTy] at this ⊢
   exact this
end Go.Proofs.Ytoahliipbclneaa
namespace Go.Am
open Go
@[go_sem] theorem QnG (b : Bool) (sz : Nat) (x : Slot) (r : List Slot) : gd b (fullO (bslS sz (gdV b x :: r))) = gd b (fullO (bslS sz (x :: r))) := by cases b <;> rfl
end Go.Am
namespace Go.Proofs.Ytoahliipbclneaa
open Go Go.Am
set_option linter.unusedVariables false
set_option maxRecDepth 4000
theorem QgI {α : Type} {L M pre pre' suf' : List α} (h : pre ++ [] = L) (g : pre' ++ suf' = M) (hp : pre'.length = pre.length) (he : M.length = L.length) : suf' = [] := by
 have h1 := congrArg List.length h
 have h2 := congrArg List.length g
 simp only [List.length_append, List.length_nil] at h1 h2
 exact List.eq_nil_of_length_eq_zero (by omega)
theorem QfJ {α : Type} {L M pre pre' suf suf' : List α} {t : α} (h : pre ++ t :: suf = L) (g : pre' ++ suf' = M) (hp : pre'.length = pre.length) (he : M.length = L.length) : ∃ u r, suf' = u :: r := by
 have h1 := congrArg List.length h
 have h2 := congrArg List.length g
 simp only [List.length_append, List.length_cons] at h1 h2
 cases suf' with
 | nil => simp only [List.length_nil] at h2; omega
 | cons u r => exact ⟨u, r, rfl⟩
def RSameTy (t : Ty) : Prop := ∀ u s, cw (.f Q01) [t.enc, u.enc] s = some (.ret (.val (.bool (eqTy t u))), s)
theorem Q5j (t u : Ty) (hl : t.args.length < 2^40) (he : u.args.length = t.args.length) : ∀ (suf suf' pre pre' : List Ty) (s : St) (i : Nat), pre ++ suf = t.args → pre' ++ suf' = u.args → i = pre.length → pre'.length = pre.length → (∀ t ∈ suf, RSameTy t) →
  ZQ (t.cells.map .val) (u.cells.map .val) (.val (.int .i64 i)) s = some (.ret (.val (.bool (eqTys suf suf'))), s)
 | [], suf', pre, pre', s, i, h, g, hi, hp, H => by
   subst hi
   obtain rfl := QgI h g hp he
   rw [Q2u]; simp only [go_sem, Nat.reduceAdd, Nat.reduceLeDiff, Ty.cells_eq, Qa (by simpa using h), eqTys]
 | x :: suf, suf', pre, pre', s, i, h, g, hi, hp, H => by
   subst hi
   obtain ⟨y, suf', rfl⟩ := QfJ h g hp he
   obtain ⟨f1, f2, f3⟩ := Q9 (x := .val (encS t.nl (t.args.map Ty.enc))) (Qk _ _) h (by omega) (Ty.cells_len x) (by decide)
   obtain ⟨-, g2, -⟩ := Q9 (x := .val (encS u.nl (u.args.map Ty.enc))) (Qk _ _) g (by omega) (Ty.cells_len y) (by decide)
   rw [hp] at g2
   have e1 := H x (List.mem_cons_self) y s
   have ih := Q5j t u hl he suf suf' (pre ++ [x]) (pre' ++ [y]) s (pre.length + 1) (by simpa using h) (by simpa using g) (by simp) (by simp [hp]) (fun w hw => H w (List.mem_cons_of_mem _ hw))
   rw [Q2u]; rw [Ty.cells_eq, Ty.cells_eq] at ih ⊢; simp only [go_sem, Nat.reduceAdd, Nat.reduceLeDiff, f1, f2, f3, g2, e1] at ih ⊢
   simp only [go_sem, ih, eqTys]
   cases eqTy x y <;> rfl
theorem Q67 : ∀ (m : Nat) (t : Ty), t.size ≤ m → t.size < 2^40 → RSameTy t
 | 0, .mk _ _ _ _ _, h, _ => by simp only [Ty.size] at h; omega
 | m + 1, .mk k n nm l nl, h, h' => fun u s => by
   obtain ⟨k', n', nm', l', nl'⟩ := u
   simp only [Ty.size] at h h'
   have hl := Ty.len_sizes l
   rw [Q8x]
   by_cases he : l'.length = l.length
   ·have e1 := Q5j (.mk k n nm l nl) (.mk k' n' nm' l' nl') (by simp only [Ty.args]; omega) he l l' [] [] s 0 rfl rfl rfl rfl (fun t ht => by have := Ty.mem_sizes ht; exact Q67 m t (by omega) (by omega))
    simp only [go_sem] at e1
    rw [show ((0 : Nat) : Int) = 0 from rfl] at e1
    simp only [go_sem, Nat.reduceAdd, Nat.reduceLeDiff, Ty.enc, e1, eqTy, decide_eq_true (show ((l.length : Int) = l'.length) by omega)]
    generalize decide (k = k') = b1
    generalize decide (n = n') = b2
    generalize decide (nm = nm') = b3
    cases b1 <;> cases b2 <;> cases b3 <;> rfl
   ·simp only [go_sem, Nat.reduceAdd, Nat.reduceLeDiff, Ty.enc, eqTy, Q5J l l' (fun h => he h.symm), decide_eq_false (show ¬ ((l.length : Int) = l'.length) by omega)]
end Go.Proofs.Ytoahliipbclneaa
namespace Go.Am
open Go
def RetH (r : Res) (e : TypeId) (s : St) (l : List AV) : Prop := ∃ x s', r = some (.ret x, s') ∧ AccH e s.toks.length [] s' x l ∧ Grew s s'
end Go.Am
namespace Go.Proofs.Ytoahliipbclneaa
open Go Go.Am
set_option linter.unusedVariables false
set_option maxRecDepth 4000
def tnd (u : Ty) : AV := (TNode.ty u 0).enc
theorem QcQ (u : Ty) : (tnd u).cells.length = 47 := TNode.cells_len (.ty u 0)
theorem Qbx (t : Ty) (s : St) (h : t.size < 2^28) : RetA (cw (.f Zb) [t.enc, .int .i64 0] s) Ql s ((preTy t).map tnd) := by
 have := Q3V _ 0 t s (Nat.le_refl _) h
 unfold Nodes at this
 rw [Q0A, List.map_map] at this
 exact this
theorem Q8D (t : Ty) (s : St) (hl : t.name.length < 2^40) : cw (.f Q39) [t.enc] s = some (.ret (.val (.bool (goodB t))), s) := by
 have e1 := fun s => Q9j t.name s (by omega)
 have e2 := Q8w t.name
 unfold goodB goodC
 rw [QaA]
 simp only [go_sem, Nat.reduceAdd, Nat.reduceLeDiff, Ty.enc, Ty.cells_eq, e1, e2, Qi6]
 congr 5
 have hlow : (decide (t.name = [105, 110, 116]) || decide (t.name = [98, 111, 111, 108]) || decide (t.name = [117, 110, 105, 116]) || decide (t.name = [101, 120, 110])) = true → lowB t.name = true := by
  intro h
  simp only [Bool.or_eq_true, decide_eq_true_eq] at h
  rcases h with ((h | h) | h) | h <;> rw [h] <;> decide +kernel
 cases decide (t.kind = 1) with
 | true => rfl
 | false =>
   revert hlow
   delta givenB argsR
   generalize decide (t.name = [105, 110, 116]) = x1
   generalize decide (t.name = [98, 111, 111, 108]) = x2
   generalize decide (t.name = [117, 110, 105, 116]) = x3
   generalize decide (t.name = [101, 120, 110]) = x4
   generalize decide (t.name = [114, 101, 102]) = x5
   generalize decide (t.name = [45, 62]) = x6
   generalize decide (t.name = [42]) = x7
   generalize lowB t.name = lw
   generalize decide (t.kind = 2) = a
   generalize decide (t.n = 0) = b
   intro hlow
   generalize (x1 || x2 || x3 || x4) = y at hlow ⊢
   cases y <;> cases x5 <;> cases x6 <;> cases x7 <;> cases lw <;> first | (simp at hlow; done) | (cases a <;> cases b <;> simp)
theorem Q3W (L : List Ty) (x : Slot) (hx : x.list? = some (L.map tnd)) (hl : L.length < 2^40) : ∀ (suf pre : List Ty) (s : St) (i : Nat), pre ++ suf = L → i = pre.length → (∀ t ∈ suf, t.name.length < 2^40) →
  ZR x (.val (.int .i64 i)) s = some (.ret (.val (.bool (suf.all goodB))), s)
 | [], pre, s, i, h, hi, H => by
   subst hi
   rw [Q2w]; simp only [go_sem, hx, Qa (by simpa using h)]; rfl
 | t :: suf, pre, s, i, h, hi, H => by
   subst hi
   obtain ⟨f1, f2, f3⟩ := Q9 hx h (by omega) (QcQ t) (by decide)
   have e1 := Q8D t s (H t List.mem_cons_self)
   have ih := Q3W L x hx hl suf (pre ++ [t]) s (pre.length + 1) (by simpa using h) (by simp) (fun w hw => H w (List.mem_cons_of_mem _ hw))
   rw [Q2w]
   simp only [go_sem, Ty.enc] at e1
   simp only [go_sem, Nat.reduceLeDiff, Nat.reduceSub, hx, f1, f2, f3, tnd, TNode.enc, TNode.cells, Dec.cells_len, Exp.cells_len, Pat.cells_len, e1, ih, List.all_cons]
   cases goodB t <;> rfl
theorem Q6x (t : Ty) (s : St) (h : t.size < 2^28) (hn : NamesTy t) : Ret (cw (.f Q0R) [t.enc] s) s (.bool (allTy goodB t)) := by
 obtain ⟨x, s1, e1, a1⟩ := Qbx t s h
 have e2 := Q3W (preTy t) x a1.list? (by rw [Q3T]; omega) (preTy t) [] s1 0 rfl rfl hn.pre
 refine ⟨s1, ?_, a1.grew⟩
 rw [show ((0 : Nat) : Int) = 0 from rfl] at e2
 rw [Q8B]
 simp only [go_sem, Nat.reduceLeDiff, Ty.enc] at e1 ⊢
 simp only [go_sem, e1, e2, Q5x]
theorem Q4t (n : Int) (L : List Int) (x : Slot) (hx : x.list? = some (L.map ekI)) (hl : L.length < 2^40) : ∀ (suf pre : List Int) (s : St) (i : Nat), pre ++ suf = L → i = pre.length →
  Q0d x (.val (.int .i64 n)) (.val (.int .i64 i)) s = some (.ret (.val (.int .i64 (match placeI n suf i with | some j => (j : Int) | none => -1))), s)
 | [], pre, s, i, h, hi => by
   subst hi
   rw [Q2M]; simp only [go_sem, Int.reduceNeg, hx, Qa (by simpa using h)]; rfl
 | m :: suf, pre, s, i, h, hi => by
   subst hi
   obtain ⟨f1, f2, f3⟩ := Q9 (f := ekI) (sz := 1) hx h (by omega) rfl (by decide)
   have ih := Q4t n L x hx hl suf (pre ++ [m]) s (pre.length + 1) (by simpa using h) (by simp)
   rw [Q2M]
   simp only [ekI] at f2
   simp only [go_sem, Int.reduceNeg, Nat.reduceAdd, Nat.reduceLeDiff, hx, f1, f2, f3, ih, placeI]
   by_cases he : m = n
   ·simp [he, ifR]
   ·simp [he, Ne.symm he, ifR]
theorem Q7D (n : Int) (L : List Int) (v : AV) (hv : (Slot.val v).list? = some (L.map ekI)) (hl : L.length < 2^40) (s : St) : cw (.f Q1o) [v, .int .i64 n] s = some (.ret (.val (.int .i64 (placeR n L))), s) := by
 have := Q4t n L (.val v) hv hl L [] s 0 rfl rfl
 rw [Q9m]; exact this
end Go.Proofs.Ytoahliipbclneaa
namespace Go.Proofs.Ytoahliipbclneaa
open Go Go.Am
set_option linter.unusedVariables false
set_option maxRecDepth 4000
def TabFit (t : List Place) : Prop := t.length < 2^26 ∧ ∀ p ∈ t, p.ty.size < 2^27
theorem TabFit.wide {t : List Place} (h : TabFit t) : ∀ p ∈ t, WideTy p.ty := fun p hp => Q1Y _ (by have := h.2 p hp; omega)
end Go.Proofs.Ytoahliipbclneaa
namespace Go.Proofs.Ytoahliipbclneaa
open Go Go.Am
set_option linter.unusedVariables false
set_option maxRecDepth 4000
section
variable (t : List Place) (d : Dec) (v : AV) (s0 : St)
theorem TabFit.own {t : List Place} (h : TabFit t) : TabFit (t.map ownP) := ⟨by rw [List.length_map]; exact h.1, fun p hp => by
 obtain ⟨q, hq, rfl⟩ := List.mem_map.1 hp
 simp only [ownP, Q8p]; exact h.2 q hq⟩
end
end Go.Proofs.Ytoahliipbclneaa
namespace Go.Am
open Go
@[go_sem] theorem QjN {l : List AV} {off sz : Nat} {m : List AV} (h : sz = 1) (k : off + 1 ≤ l.length) (r : List (Nat × Nat × Slot)) : fillS l ((off, sz, .full m) :: r) = fillS (l.take off ++ ([.sl m] ++ l.drop (off + 1))) r := by
  subst h
  exact Qd8 (x := .full m) (v := .sl m) rfl rfl rfl k r
end Go.Am
namespace Go.Proofs.Ytoahliipbclneaa
open Go Go.Am
set_option linter.unusedVariables false
set_option maxRecDepth 4000
theorem eqBad (a b a' b' : Int) (c c' : Str) : eqS (C.ti Q7) (.agg [.int .i64 a, .int .i64 b, .str c]) (.agg [.int .i64 a', .int .i64 b', .str c']) = some (decide (TBad.mk a b c = TBad.mk a' b' c')) := by
 unfold eqS
 simp only [Qg0, QcT]
 have e1 : (a == a') = decide (a = a') := by rw [Bool.eq_iff_iff]; simp
 have e2 : (b == b') = decide (b = b') := by rw [Bool.eq_iff_iff]; simp
 have e3 : (c == c') = decide (c = c') := by rw [Bool.eq_iff_iff]; simp
 by_cases h1 : a = a' <;> by_cases h2 : b = b' <;> by_cases h3 : c = c' <;> simp [eqAll, TK.has, AV.eqb, e1, e2, e3, h1, h2, h3]
theorem QcZ (a b a' b' : Int) (c c' : Str) : binS (C.ti Q7) .eql (.val (.agg [.int .i64 a, .int .i64 b, .str c])) (.val (.agg [.int .i64 a', .int .i64 b', .str c'])) = some (.val (.bool (decide (TBad.mk a b c = TBad.mk a' b' c')))) := by
 unfold binS
 simp only [Q05, eqBad]
 rfl
@[go_sem] theorem QbZ (a b : Int) (c : Str) : binS (C.ti Q7) .eql (.val (.agg [.int .i64 a, .int .i64 b, .str c])) (.val (.agg [.int .i64 a, .int .i64 b, .str c])) = some (.val (.bool true)) := by
  rw [QcZ, decide_eq_true rfl]
def kE1 : Exp := .mk 4 0 [] 0 [.mk 1 0 [] 1 [] true [] true [] true] false [] true [] true
def kP : Pat := .mk 6 0 [120] 0 [.mk 2 0 [121] 0 [] true] false
def kE2 : Exp := .mk 2 4 [78, 105, 108] 0 [] true [] true [] true
def kD : List Dec := [.mk 1 0 [] 0 [] true [.mk kP kE1] false [] true]
theorem k1 : rightN (nodesExp kE1) (deepExp kE1) = ⟨19, 0, []⟩ := by decide +kernel
theorem k2 : rightN (nodesExp kE2) (deepExp kE2) = ⟨8, 4, [78, 105, 108]⟩ := by decide +kernel
theorem k3 : countN (nodesDecs false kD) = 5 := by decide +kernel
theorem k4 : varsPat kP = [[120], [121]] := by decide +kernel
end Go.Proofs.Ytoahliipbclneaa
namespace Go.Proofs.Ytoahliipbclneaa
open Go Go.Am
set_option linter.unusedVariables false
set_option maxRecDepth 4000
theorem Q4Y (p q : Place) (h : p.ty.size < 2^40) (s : St) : cw (.f Q12) [p.enc, q.enc] s = some (.ret (.val (.bool (eqPl p q))), s) := by
 have e1 := fun s => Q67 _ p.ty (Nat.le_refl _) h q.ty s
 simp only [Ty.enc, Ty.cells_eq] at e1
 rw [Q66]
 simp only [go_sem, Nat.reduceAdd, Nat.reduceLeDiff, Place.enc, Place.cells_eq, List.map_cons, List.map_nil, e1]
 rfl
section
variable (t : List Place) (v : AV) (s0 : St)
end
end Go.Proofs.Ytoahliipbclneaa
namespace Go.Proofs.Ytoahliipbclneaa
open Go Go.Am
set_option linter.unusedVariables false
set_option maxRecDepth 4000
def kD11 : Dec := .mk 3 0 [111, 112, 116] 1 [⟨[78, 111, 110, 101], 0, false, .zero⟩, ⟨[83, 111, 109, 101], 0, true, .mk 1 0 [] [] true⟩] false [] true [] true
def kT11 : List Place := (addD startD kD11).1
def placeB (p : Place) : Bool := decide (p.name.length < 2^40) && (decide (p.data.length < 2^40) && (preTy p.ty).all fun u => decide (u.name.length < 2^40))
theorem Qex {p : Place} (h : placeB p = true) : PlaceOK p := by
 simp only [placeB, Bool.and_eq_true, decide_eq_true_eq, List.all_eq_true] at h
 refine ⟨h.1, h.2.1, ?_⟩
 intro n hn
 rw [Q0A] at hn
 obtain ⟨u, hu, rfl⟩ := List.mem_map.1 hn
 exact h.2.2 u hu
theorem Q8q {t : List Place} (h : t.all placeB = true) : ∀ p ∈ t, PlaceOK p := fun p hp => Qex (List.all_eq_true.1 h p hp)
theorem kstart_ok : TabOK startD := ⟨by decide +kernel, Q8q (by decide +kernel)⟩
theorem kT11_ok : TabOK kT11 := ⟨by decide +kernel, Q8q (by decide +kernel)⟩
theorem Qgy : (addD startD kD11).2 = .zero := by decide +kernel
theorem QcD : kT11.length = 8 := by decide +kernel
theorem Qek : rightTD kT11 = true := by decide +kernel
def k11B (o : Option Place) : Bool := match o with
 | some p => decide (p.tag = 1) && decide (p.of_ = 2) && decide (p.vars = 1) && decide (p.ty.name = [45, 62])
 | none => false
theorem Qfi : k11B (findD [83, 111, 109, 101] kT11) = true := by decide +kernel
theorem Q3m (s : St) : Ret (cw (.f Q1m) [] s) s (.bool true) := by
 obtain ⟨s1, e1, g1⟩ := Q1N s
 have hst : (startD.map Place.enc) ≠ [] := by simp [startD]
 obtain ⟨s2, w, e2, hw, g2⟩ := Q58 startD kD11 (by decide) kstart_ok.wide (by decide) (by decide) (fun c hc => by
  simp only [kD11, Dec.cons, List.mem_cons, List.not_mem_nil, or_false] at hc
  rcases hc with rfl | rfl
  ·exact Q36 (by simp) (by simp)
  ·exact Q36 (by simp) (by simp)) (.sl (startD.map Place.enc)) rfl s1
 obtain ⟨s3, e3, g3⟩ := Q4o [83, 111, 109, 101] kT11 (by rw [QcD]; decide) kT11_ok.wide w hw s2
 obtain ⟨s4, e4, g4⟩ := Q3J kT11 kT11_ok w hw s3
 have hf := Qfi
 cases hfd : findD [83, 111, 109, 101] kT11 with
 | none => rw [hfd] at hf; cases hf
 | some p =>
   rw [hfd] at hf e3
   simp only [k11B, Bool.and_eq_true, decide_eq_true_eq] at hf
   obtain ⟨⟨⟨h1, h2⟩, h3⟩, h4⟩ := hf
   rw [Qgy] at e2
   rw [Qek] at e4
   have hlen : ((kT11.length : Nat) : Int) = 8 := by rw [QcD]; rfl
   have hw' : (Slot.val w).list? = some (kT11.map Place.enc) := hw
   refine ⟨s4, ?_, ((g1.trans g2).trans g3).trans g4⟩
   simp only [foundD, Place.enc, Place.cells_eq, h1, h2, h3, h4] at e3
   simp only [kD11, Dec.enc, Dec.cells_mk, List.map_cons, List.map_nil, Q1R, Q4L, Con.enc, Con.cells, Ty.zero, Ty.cells_mk, TBad.enc, TBad.cells, TBad.zero] at e2
   rw [Q9g]
   simp only [go_sem, Nat.reduceAdd, Nat.reduceLeDiff, e1, e2, e3, e4, hw', List.length_map, hlen, QbZ, decide_true]
end Go.Proofs.Ytoahliipbclneaa
namespace Go.Proofs.Ytoahliipbclneaa
open Go Go.Am
set_option linter.unusedVariables false
set_option maxRecDepth 4000
theorem intAcc {A0 h0 h : List Nat} {s0 s : St} {x y : Slot} {A B : List Int} (a : AccH Q1 s0.toks.length h s x (A.map ekI)) (M : Moves A0 h0 h s0 s) (hh : ∀ k ∈ h, k < s.toks.length) (hy : y.list? = some (B.map ekI)) (b : A.length + B.length < 2^30) :
  ∃ x' s', appendS Q1 (C.ti Q1) s x y = some (x', s') ∧ AccH Q1 s0.toks.length h s' x' ((A ++ B).map ekI) ∧ Moves A0 h0 h s0 s' ∧ s'.locs = s.locs ∧ (∀ k ∈ h, s'.toks[k]? = s.toks[k]?) ∧ (∀ k ∈ h, k < s'.toks.length) :=
 AccH.appendF a M hh hy (fun a => by rw [Q4E]; rfl) (by rw [Q4E]; decide) b (by rw [QbT]; decide)
theorem Qae : ∀ (l : List Ty) (acc : List Int), (varsL l acc).length ≤ acc.length + l.length
 | [], acc => Nat.le_refl _
 | u :: l, acc => by
   simp only [varsL, List.length_cons]
   have := Qae l (bif decide (u.kind = 1) && decide (placeR u.n acc < 0) then acc ++ [u.n] else acc)
   cases h : (decide (u.kind = 1) && decide (placeR u.n acc < 0)) <;> rw [h] at this <;> simp only [cond_true, cond_false, List.length_append, List.length_singleton] at this ⊢ <;> omega
theorem Q2F (L : List Ty) (y : Slot) (hy : y.list? = some (L.map tnd)) (hl : L.length < 2^28) (s0 : St) : ∀ (suf pre : List Ty) (A : List Int) (x : Slot) (s : St) (i : Nat), AccH Q1 s0.toks.length [] s x (A.map ekI) → Moves [] [] [] s0 s → pre ++ suf = L → i = pre.length → A.length ≤ pre.length →
  RetH (ZK x y (.val (.int .i64 i)) s) Q1 s0 ((varsL suf A).map ekI)
 | [], pre, A, x, s, i, hA, hM, h, hi, hn => by
   subst hi
   rw [Q3r]; simp only [go_sem, hy, Qa (by simpa using h), varsL]
   exact ⟨_, _, rfl, hA, hM.toGrew⟩
 | t :: suf, pre, A, x, s, i, hA, hM, h, hi, hn => by
   subst hi
   obtain ⟨f1, f2, f3⟩ := Q9 hy h (by omega) (QcQ t) (by decide)
   have hlen : pre.length < L.length := by rw [← h]; simp
   have e1 := Q7D t.n A (encS true (A.map ekI)) (Qk _ _) (by omega) s
   rw [Q3r]
   simp only [go_sem, Nat.reduceAdd, Nat.reduceLeDiff, Nat.reduceSub, hy, f1, f2, f3, tnd, TNode.enc, TNode.cells, Dec.cells_len, Exp.cells_len, Pat.cells_len, Ty.cells_eq, ZB hA.av, e1, varsL]
   cases (decide (t.kind = 1) && decide (placeR t.n A < 0)) with
   | true =>
     obtain ⟨x1, s1, e2, a2, m2, -, -, -⟩ := intAcc (A0 := []) (h0 := []) (h := []) (s0 := s0) (B := [t.n]) (y := .full [.int .i64 t.n]) hA hM (by simp) rfl (by simp only [List.length_singleton]; omega)
     simp only [go_sem, e2, cond_true]
     exact Q2F L y hy hl s0 suf (pre ++ [t]) (A ++ [t.n]) x1 s1 (pre.length + 1) a2 m2 (by simpa using h) (by simp) (by simp; omega)
   | false =>
     simp only [go_sem, cond_false]
     exact Q2F L y hy hl s0 suf (pre ++ [t]) A x s (pre.length + 1) hA hM (by simpa using h) (by simp) (by simp; omega)
theorem AccH.weaken {e : TypeId} {b b' : Nat} {h : List Nat} {s : St} {x : Slot} {l : List AV} (a : AccH e b h s x l) (hb : b' ≤ b) : AccH e b' h s x l := by
 rcases a.is with hx | hx | ⟨k, hx, h1, h2, h3⟩
 ·exact ⟨.inl hx⟩
 ·exact ⟨.inr (.inl hx)⟩
 ·exact ⟨.inr (.inr ⟨k, hx, h1, by omega, h3⟩)⟩
theorem RetH.after {r : Res} {e : TypeId} {s s0 : St} {l : List AV} (h : RetH r e s l) (g : Grew s0 s) : RetH r e s0 l := by
 obtain ⟨x, s', h1, h2, h3⟩ := h
 exact ⟨x, s', h1, AccH.weaken h2 g.toksLe, g.trans h3⟩
theorem Q8C (t : Ty) (s : St) (h : t.size < 2^28) : RetH (cw (.f Q1A) [t.enc] s) Q1 s ((varsTyR t).map ekI) := by
 obtain ⟨x, s1, e1, a1⟩ := Qbx t s h
 have e2 := Q2F (preTy t) x a1.list? (by rw [Q3T]; omega) s1 (preTy t) [] [] (.val .nils) s1 0 (.nil _ _ _ _) (.refl _ _ _) rfl rfl (Nat.le_refl _)
 rw [show ((0 : Nat) : Int) = 0 from rfl] at e2
 rw [Qaz]
 simp only [go_sem, Nat.reduceLeDiff, Ty.enc] at e1 ⊢
 simp only [go_sem, e1]
 exact RetH.after e2 a1.grew
end Go.Proofs.Ytoahliipbclneaa
namespace Go.Proofs.Ytoahliipbclneaa
open Go Go.Am
set_option linter.unusedVariables false
set_option maxRecDepth 4000
section
variable {H : Type}
def GPlace (b : Nat) (p : Place) : Prop := p.ty.size + 1 ≤ b ∧ PlaceOK p
def GPlaces (b : Nat) (l : List Place) : Prop := Place.sizes l ≤ b ∧ ∀ p ∈ l, PlaceOK p
theorem GPlaces.nil : GPlaces 0 [] := ⟨Nat.le_refl _, by simp⟩
theorem GPlaces.cons (m k : Nat) (t : Place) (L : List Place) (h : GPlace m t) (g : GPlaces k L) : GPlaces (m + k) (t :: L) := by
 refine ⟨by have := h.1; have := g.1; simp only [Place.sizes]; omega, fun p hp => ?_⟩
 rcases List.mem_cons.1 hp with rfl | hp
 ·exact h.2
 ·exact g.2 p hp
theorem QfF : (C.ti ZU).k = .struct [(0, Q1), (1, Q4)] := by kernel_rfl
theorem Qe1 : ∀ (n : Nat) (d : DataW H) l, conv C.ti n Q5 d = some l → Rows.uptoBulk d < 2^30 → ∃ t : Place, l = t.cells ∧ GPlace (Rows.uptoBulk d) t
 | 0, d, l, h, _ => by simp [conv] at h
 | n + 1, d, l, h, hb => by
   obtain ⟨parts, ls, rfl, hf, rfl⟩ := Q2h QdG h
   rcases parts with _ | ⟨d1, _ | ⟨d2, _ | ⟨d3, _ | ⟨d4, _ | ⟨d5, _ | ⟨d6, _ | _⟩⟩⟩⟩⟩⟩ <;> rcases ls with _ | ⟨l1, _ | ⟨l2, _ | ⟨l3, _ | ⟨l4, _ | ⟨l5, _ | ⟨l6, _ | _⟩⟩⟩⟩⟩⟩ <;> simp only [Fields, and_false] at hf
   obtain ⟨c1, c2, c3, c4, c5, c6, -⟩ := hf
   simp only [Rows.uptoBulk, Rows.uptoBulkAll] at hb ⊢
   obtain ⟨nm, rfl, rfl⟩ := Q7q QD c1
   obtain ⟨data, rfl, rfl⟩ := Q7q QD c2
   obtain ⟨tag, rfl, rfl, w3⟩ := Q3c Q6m c3
   obtain ⟨of_, rfl, rfl, w4⟩ := Q3c Q6m c4
   obtain ⟨has, rfl, rfl⟩ := QdX QeU c5
   simp only [Rows.uptoBulk] at hb ⊢
   cases n with
   | zero => simp [conv] at c6
   | succ n =>
     obtain ⟨parts, ls, rfl, hf, rfl⟩ := Q2h QfF c6
     rcases parts with _ | ⟨e1, _ | ⟨e2, _ | _⟩⟩ <;> rcases ls with _ | ⟨m1, _ | ⟨m2, _ | _⟩⟩ <;> simp only [Fields, and_false] at hf
     obtain ⟨c7, c8, -⟩ := hf
     simp only [Rows.uptoBulk, Rows.uptoBulkAll] at hb ⊢
     obtain ⟨vars, rfl, rfl, w7⟩ := Q3c Q6m c7
     simp only [Rows.uptoBulk] at hb ⊢
     obtain ⟨t, rfl, ht⟩ := Qe2 n e2 m2 c8 (by omega)
     exact ⟨⟨nm, data, tag, of_, has, vars, t⟩, by simp [Place.cells], by have := ht.1; simp only []; omega, by simp only []; omega, by simp only []; omega, ht.2 0⟩
theorem Qd3 (n : Nat) (d : DataW H) (l : List AV) (h : conv C.ti n QB d = some l) (hb : Rows.uptoBulk d < 2^30) : ∃ L b, l = [encS b (L.map Place.enc)] ∧ GPlaces (Rows.uptoBulk d) L := by
 cases n with
 | zero => simp [conv] at h
 | succ n =>
   obtain ⟨L, b, k, h1, h2, h3⟩ := Qa9 Q9s Q6D GPlaces.nil GPlaces.cons (fun d l h hb => Qe1 n d l h hb) d l h hb
   exact ⟨L, b, h1, by have := h2.1; omega, h2.2⟩
end
end Go.Proofs.Ytoahliipbclneaa
namespace Go.Proofs.Ytoahliipbclneaa
open Go Go.Am
set_option linter.unusedVariables false
set_option maxRecDepth 4000
theorem Qe8 (p : Place) : eqPl p p = true := (Qb2 p p).2 rfl
theorem Qaf : ∀ (l : List Ty) (acc : List Int) (n : Int), n ∈ varsL l acc → n ∈ acc ∨ ∃ u ∈ l, u.kind = 1 ∧ u.n = n
 | [], acc, n, h => .inl h
 | u :: l, acc, n, h => by
   simp only [varsL] at h
   rcases Qaf l _ n h with h | ⟨w, hw, h1, h2⟩
   ·cases hb : (decide (u.kind = 1) && decide (Go.Am.placeR u.n acc < 0)) with
    | false => rw [hb, cond_false] at h; exact .inl h
    | true =>
      rw [hb, cond_true, List.mem_append, List.mem_singleton] at h
      simp only [Bool.and_eq_true, decide_eq_true_eq] at hb
      rcases h with h | h
      ·exact .inl h
      ·exact .inr ⟨u, List.mem_cons_self, hb.1, h.symm⟩
   ·exact .inr ⟨w, List.mem_cons_of_mem _ hw, h1, h2⟩
section
variable (t : List Place) (v : AV)
theorem Q1c (hv : (Slot.val v).list? = some (t.map Place.enc)) (hl : t.length < 2^40) (i : Nat) (p : Place) (hp : t[i]? = some p) (hadj : 0 < i → p.data ≠ sExn → p.tag > 0 → ∃ q, t[i - 1]? = some q ∧ q.data = p.data) (L : List Int) (x : Slot) (hx : x.list? = some (L.map ekI)) (hL : L.length < 2^40) (hlt : ∀ n ∈ L, n < p.vars) : ∀ (suf pre : List Int) (s : St) (j : Nat), pre ++ suf = L → j = pre.length →
  Zo (.val v) (.val (.int .i64 i)) x (.val (.int .i64 j)) s = Z0 (.val v) (.val (.int .i64 ((i + 1 : Nat) : Int))) s
 | [], pre, s, j, h, hj => by
   subst hj
   have hi : i < t.length := (List.getElem?_eq_some_iff.1 hp).1
   have f1 : ixS 10 (.val v) (.val (.int .i64 (i : Int))) = some (.val (.cp p.cells)) := Q1v (n := i) (v := p.enc) hv (by rw [List.getElem?_map, hp]; rfl) (Place.cells_len p) (by decide)
   have w1 : IntKind.i64.wrap ((i : Int) + 1) = ((i + 1 : Nat) : Int) := by rw [wrap64 (by omega) (by omega)]; rfl
   have hend := Qa (show pre = L by simpa using h)
   rw [Q1T]
   by_cases hi0 : 0 < i
   ·have hg : decide ((i : Int) > 0) = true := decide_eq_true (by omega)
    by_cases hd : p.data = sExn
    ·have hd' : decide (p.data = [101, 120, 110]) = true := decide_eq_true hd
     simp only [go_sem, hx, List.length_map, hend, f1, Place.cells_eq, hg, hd', Bool.not_true, w1]
    ·have hd' : decide (p.data = [101, 120, 110]) = false := decide_eq_false hd
     by_cases ht : p.tag > 0
     ·obtain ⟨q, hq, hqd⟩ := hadj hi0 hd ht
      have f2 : ixS 10 (.val v) (.val (.int .i64 ((i - 1 : Nat) : Int))) = some (.val (.cp q.cells)) := Q1v (n := i - 1) (v := q.enc) hv (by rw [List.getElem?_map, hq]; rfl) (Place.cells_len q) (by decide)
      have w2 : IntKind.i64.wrap ((i : Int) - 1) = ((i - 1 : Nat) : Int) := by rw [wrap64 (by omega) (by omega)]; omega
      simp only [go_sem, hx, List.length_map, hend, f1, f2, Place.cells_eq, hg, hd', Bool.not_false, w1, w2, ht, decide_true, hqd, Bool.not_true]
     ·simp only [go_sem, hx, List.length_map, hend, f1, Place.cells_eq, hg, hd', Bool.not_false, w1, decide_eq_false ht]
   ·have hg : decide ((i : Int) > 0) = false := decide_eq_false (by omega)
    simp only [go_sem, hx, List.length_map, hend, hg, w1]
 | n :: suf, pre, s, j, h, hj => by
   subst hj
   obtain ⟨g1, g2, g3⟩ := Q9 (f := ekI) hx h (by omega) (sz := 1) rfl (by decide)
   have f1 : ixS 10 (.val v) (.val (.int .i64 (i : Int))) = some (.val (.cp p.cells)) := Q1v (n := i) (v := p.enc) hv (by rw [List.getElem?_map, hp]; rfl) (Place.cells_len p) (by decide)
   have ih := Q1c hv hl i p hp hadj L x hx hL hlt suf (pre ++ [n]) s (pre.length + 1) (by simpa using h) (by simp)
   have hn : decide (n ≥ p.vars) = false := by
    have := hlt n (by rw [← h]; simp)
    exact decide_eq_false (by omega)
   simp only [ekI, QdR] at g2
   rw [Q1T]
   simp only [go_sem, Nat.reduceAdd, Nat.reduceLeDiff, hx, List.length_map, g1, g2, g3, f1, Place.cells_eq, hn]
   exact ih
theorem Q1b (hv : (Slot.val v).list? = some (t.map Place.enc)) (ht : TabOK t) (o : Once t) : ∀ (suf pre : List Place) (s : St) (i : Nat), pre ++ suf = t → i = pre.length → Ret (Z0 (.val v) (.val (.int .i64 i)) s) s (.bool true)
 | [], pre, s, i, h, hi => by
   subst hi
   obtain ⟨s1, e1, g1⟩ := Q3m s
   refine ⟨s1, ?_, g1⟩
   rw [Q1S]
   simp only [go_sem, hv, List.length_map, Qa (show pre = t by simpa using h), e1]
 | p :: suf, pre, s, i, h, hi => by
   subst hi
   have hlen := ht.len
   obtain ⟨f1, f2, f3⟩ := Q9 hv h (by omega) (Place.cells_len p) (by decide)
   have hp : t[pre.length]? = some p := by rw [← h]; simp
   have hpm : p ∈ t := List.mem_of_getElem? hp
   have hsz := Place.mem_sizes hpm
   have hts := ht.size
   obtain ⟨s1, e1, g1⟩ := Q4o p.name t (by omega) ht.wide v hv s
   rw [Qd9 o.nodup hpm] at e1
   have e2 := Q4Y p p (by omega) s1
   rw [Qe8] at e2
   obtain ⟨s3, e3, g3⟩ := Q6x p.ty s1 (by omega) (ht.ok p hpm).2.2
   have hgood : allTy goodB p.ty = true := by rw [Q5x, List.all_eq_true]; exact fun u hu => (o.good p hpm u hu).1
   rw [hgood] at e3
   obtain ⟨x, s4, e4, a4⟩ := Q99 p.data t (by omega) ht.wide v hv s3
   have hx := a4.list?
   obtain ⟨nl, hav⟩ := a4.av
   have hk := o.num pre.length p hp
   have hfa := Q9K p.data t pre.length p hp rfl
   have hkl : cnt p.data (t.take pre.length) < (dataL p.data t).length := (List.getElem?_eq_some_iff.1 hfa).1
   have f4 : ixS 10 x (.val (.int .i64 p.tag)) = some (.val (.cp p.cells)) := by
    rw [hk]
    exact Q1v (v := p.enc) hx (by rw [List.getElem?_map, hfa]; rfl) (Place.cells_len p) (by decide)
   have t1 : decide (p.tag < 0) = false := decide_eq_false (by omega)
   have t2 : decide (p.tag ≥ (((dataL p.data t).length : Nat) : Int)) = false := decide_eq_false (by omega)
   obtain ⟨y, s5, e5, a5, g5⟩ := Q8C p.ty s4 (by omega)
   have hy := a5.list?
   have hvl : ∀ n ∈ varsTyR p.ty, n < p.vars := fun n hn => by
    rcases Qaf (preTy p.ty) [] n hn with hn | ⟨u, hu, h1, h2⟩
    ·cases hn
    ·rw [← h2]; exact (o.good p hpm u hu).2 h1
   have hL : (varsTyR p.ty).length < 2^40 := by
    have h1 := Qae (preTy p.ty) []
    rw [Q3T] at h1
    simp only [List.length_nil] at h1
    unfold varsTyR; omega
   have hl1 := Q1c t v hv (by omega) pre.length p hp (fun h0 hd htg => by
    obtain ⟨q, hq⟩ : ∃ q, t[pre.length - 1]? = some q := by
     have : pre.length < t.length := (List.getElem?_eq_some_iff.1 hp).1
     exact ⟨_, List.getElem?_eq_getElem (by omega)⟩
    exact ⟨q, hq, o.adj (pre.length - 1) p q hq (by rw [Nat.sub_add_cancel (by omega)]; exact hp) hd htg⟩) (varsTyR p.ty) y hy hL hvl (varsTyR p.ty) [] s5 0 rfl rfl
   rw [show ((0 : Nat) : Int) = 0 from rfl] at hl1
   obtain ⟨s6, e6, g6⟩ := Q1b hv ht o suf (pre ++ [p]) s5 (pre.length + 1) (by simpa using h) (by simp)
   refine ⟨s6, ?_, (((g1.trans g3).trans a4.grew).trans g5).trans g6⟩
   have ho := o.of_ p hpm
   simp only [foundD, Place.enc, Place.cells_eq] at e1 e2
   simp only [Ty.enc, Ty.cells_eq] at e3 e5
   rw [Place.cells_eq] at f4
   rw [Q1S]
   by_cases hd : p.data = sExn
   ·rw [if_pos hd] at ho
    have hd' : decide (p.data = [101, 120, 110]) = true := decide_eq_true hd
    have hoz : decide (p.of_ = 0) = true := decide_eq_true ho
    simp only [go_sem, Nat.reduceAdd, Nat.reduceLeDiff, hv, List.length_map, f1, f2, Place.cells_eq, List.map_cons, List.map_nil, e1, e2, e3, e4, hx, f4, t1, t2, hd', hoz, decide_true, Bool.not_true, e5, hl1]
    exact e6
   ·rw [if_neg hd] at ho
    have hd' : decide (p.data = [101, 120, 110]) = false := decide_eq_false hd
    have hoc : decide (p.of_ = (((dataL p.data t).length : Nat) : Int)) = true := decide_eq_true ho
    simp only [go_sem, Nat.reduceAdd, Nat.reduceLeDiff, hv, List.length_map, f1, f2, Place.cells_eq, List.map_cons, List.map_nil, e1, e2, e3, e4, hx, f4, t1, t2, hd', hoc, decide_true, Bool.not_true, Bool.not_false, e5, hl1]
    exact e6
end
theorem Q5m (t : List Place) (ht : TabOK t) (v : AV) (hv : (Slot.val v).list? = some (t.map Place.enc)) (s : St) : Ret (cw (.f ZA) [v] s) s (.bool true) := by
 obtain ⟨s1, e1, g1⟩ := Q3J t ht v hv s
 rw [Q6t]
 cases h : rightTD t with
 | false =>
   rw [h] at e1
   obtain ⟨s2, e2, g2⟩ := Q3m s1
   refine ⟨s2, ?_, g1.trans g2⟩
   simp only [go_sem, e1, Bool.not_false, e2]
 | true =>
   rw [h] at e1
   obtain ⟨s2, e2, g2⟩ := Q1b t v hv ht (Qdn h) t [] s1 0 rfl rfl
   rw [show ((0 : Nat) : Int) = 0 from rfl] at e2
   refine ⟨s2, ?_, g1.trans g2⟩
   simp only [go_sem, e1, Bool.not_true]
   exact e2
theorem Q5Q {k0 : Nat} (t : List Place) (b : Bool) (g : GPlaces k0 t) (hb : k0 + 0 ≤ 1048576) : Ret (cw (.f ZA) [encS b (t.map Place.enc)] st0) st0 (.bool true) :=
 Q5m t ⟨by have := g.1; omega, g.2⟩ _ (Qk _ _) st0
end Go.Proofs.Ytoahliipbclneaa