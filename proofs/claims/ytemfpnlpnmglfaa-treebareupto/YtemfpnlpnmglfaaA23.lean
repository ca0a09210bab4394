/- The entry: how what is read of a call's arguments stands to the abstract machine's values. -/
import Derived.Test.YtemfpnlpnmglfaaA22
import Derived.ReadAgain
import Derived.ChangeSame
import Derived.RowKit3
set_option linter.unusedVariables false
set_option linter.unusedSimpArgs false
namespace Go.Am
open Go Go.RowKit

section
variable {H : Type} {enc : TypeId × Value → H} {P : Program} {C : Cfg}

/-- a datum's cells -/
def conv (ti : TypeId → TI) : Nat → TypeId → DataW H → Option (List AV)
  | 0, _, _ => none
  | n + 1, t, d => match (ti t).k, d with
    | .bool, .lit (.bool b) => some [.bool b]
    | .int k, .lit (.int j x) => if j = k ∧ (Lit.int k x).wf = true then some [.int k x] else none
    | .str, .lit (.string s) => if s.length ≤ maxLen then some [.str s] else none
    | .slice _, .nil => some [.nils]
    | .slice e, .slice elems _ => if elems.length ≤ maxLen then (elems.mapM fun d => (conv ti n e d).bind (ofCells (ti e))).map fun l => [.sl l] else none
    | .struct fs, .agg parts => if fs.length = parts.length then ((fs.zip parts).mapM fun p => conv ti n p.1.2 p.2).map List.flatten else none
    | _, _ => none

def tile (ti : TypeId → TI) : Nat → List (Nat × TypeId) → Nat → Bool
  | n, [], m => Nat.beq n m
  | n, (o, t) :: r, m => Nat.beq o n && tile ti (n + (ti t).size) r m

/-- a set of plain types, closed -/
def plainT (ti : TypeId → TI) (S : List TypeId) (t : TypeId) : Bool :=
  match (ti t).k with
  | .bool | .int _ | .str => true
  | .slice e => S.any (Nat.beq e) && Nat.blt 0 (ti e).size
  | .struct fs => fs.all (fun f => S.any (Nat.beq f.2)) && tile ti 0 fs (ti t).size
  | _ => false

theorem any_mem {S : List TypeId} {t : TypeId} (h : S.any (Nat.beq t) = true) : t ∈ S := by
  obtain ⟨x, hx, he⟩ := List.any_eq_true.1 h
  rw [Nat.eq_of_beq_eq_true he]
  exact hx

/-- what is known at the start -/
def kn0 (w : World) : Kn := { im := fun b o => w.cell? ⟨b, o, none⟩, loc := fun _ => none, tok := fun _ => none }
def st0 : St := { locs := [], toks := [] }

def plainV : AV → Bool
  | .agg _ | .tup _ => false
  | _ => true

theorem plainV_cells {v : AV} (h : plainV v = true) : v.cells = [v] := by cases v <;> first | rfl | cases h

theorem size_of (hT : ∀ t, TyOK P C t) {t : TypeId} (hk : (C.ti t).k ≠ .bad) : P.cellsOf t = (C.ti t).size := by
  obtain ⟨i, z, h1, h2, _⟩ := (hT t).info hk
  unfold Program.cellsOf
  rw [h1]
  exact h2

theorem size_one (hT : ∀ t, TyOK P C t) {t : TypeId} (hk : (C.ti t).k ≠ .bad) (ha : (C.ti t).isAgg = false) : (C.ti t).size = 1 := by
  obtain ⟨i, z, _, _, _, _, _, _, _, _, h⟩ := (hT t).info hk
  exact (h ha).2

structure ConvOK (C : Cfg) (w : World) (t : TypeId) (l : List AV) (cs : List Value) : Prop where
  vr : VRl (kn0 w) l cs
  ones : Ones cs
  len : l.length = (C.ti t).size
  plain : ∀ v ∈ l, plainV v = true

theorem ones_one {v : Value} (h : v.oneCell' = true) : Ones [v] := by
  intro u hu
  simp only [List.mem_singleton] at hu
  subst hu
  exact h

theorem vrl_one {κ : Kn} {a : AV} {v : Value} (h : VR κ a v) : VRl κ [a] [v] := ⟨v, [], rfl, h, rfl⟩

theorem flatten_len {α : Type} {k : Nat} : ∀ {l : List (List α)}, (∀ x ∈ l, x.length = k) → l.flatten.length = l.length * k
  | [], _ => by simp
  | x :: l, h => by
    have h1 := h x (by simp)
    have h2 := flatten_len (fun y hy => h y (List.mem_cons_of_mem _ hy))
    simp [h1, h2, Nat.add_mul, Nat.add_comm]

theorem flatten_get {α : Type} {k : Nat} : ∀ {l : List (List α)} (_ : ∀ x ∈ l, x.length = k) (i j : Nat) (x : List α), l[i]? = some x → j < k → l.flatten[i * k + j]? = x[j]?
  | [], _, i, j, x, h, _ => by simp at h
  | y :: l, h, 0, j, x, hx, hj => by
    simp at hx
    subst hx
    have := h y (by simp)
    simp [List.getElem?_append_left (show j < y.length by omega)]
  | y :: l, h, i + 1, j, x, hx, hj => by
    simp at hx
    have h1 := h y (by simp)
    have h2 := flatten_get (fun z hz => h z (List.mem_cons_of_mem _ hz)) i j x hx hj
    rw [List.flatten_cons, List.getElem?_append_right (by rw [h1, Nat.add_mul]; omega)]
    rw [← h2]
    congr 1
    rw [h1, Nat.add_mul]
    omega

theorem add_add (a : Addr) (x y : Nat) : a.add (x + y) = (a.add x).add y := by
  unfold Addr.add
  by_cases hx : x = 0 <;> by_cases hy : y = 0 <;> simp [hx, hy, Nat.add_assoc]

/-- the cells of a row of elements -/
theorem rows_conv {w : World} {base : Nat} {a : Addr} {e : TypeId} {k : Nat} (hk0 : 0 < k) {r : List Value → Option (DataW H × List MemPlace)} {g : DataW H → Option AV}
    (hr : ∀ cs x, cs.length = k → r cs = some x → ∃ v, g x.1 = some v ∧ VRl (kn0 w) v.cells cs ∧ Ones cs ∧ v.cells.length = k)
    (len : Nat) (elems : List (DataW H × List MemPlace)) (h : ((List.range len).mapM fun i => (w.cells? base (a.add (i * k)) k).bind r) = some elems) :
    ∃ xs, (elems.map (·.1)).mapM g = some xs ∧ xs.length = len ∧ (∀ x ∈ xs, x.cells.length = k) ∧ ∃ vs, Held (kn0 w) a vs ∧ Ones vs ∧ VRl (kn0 w) (flat xs) vs ∧ (0 < len → a.spot = none) := by
  have hlen : elems.length = len := by simpa using mapM_some_length h
  have get : ∀ i, i < len → ∃ cs x v, elems[i]? = some x ∧ w.cells? base (a.add (i * k)) k = some cs ∧ g x.1 = some v ∧ VRl (kn0 w) v.cells cs ∧ Ones cs ∧ v.cells.length = k := by
    intro i hi
    have h1 := mapM_some_get h i i (by simp [hi])
    obtain ⟨x, hx⟩ : ∃ x, elems[i]? = some x := ⟨elems[i], by simp [hlen, hi]⟩
    rw [hx] at h1
    simp only [Option.bind_eq_some_iff] at h1
    obtain ⟨cs, h2, h3⟩ := h1
    obtain ⟨v, h4, h5, h6, h7⟩ := hr cs x (World.cells?_some h2).2.1 h3
    exact ⟨cs, x, v, hx, h2, h4, h5, h6, h7⟩
  -- by induction over how many
  have main : ∀ m, m ≤ len → ∃ (xs : List AV) (css : List (List Value)), ((elems.take m).map (·.1)).mapM g = some xs ∧ xs.length = m ∧ (∀ x ∈ xs, x.cells.length = k) ∧ css.length = m ∧ (∀ c ∈ css, c.length = k ∧ Ones c) ∧ VRl (kn0 w) (flat xs) css.flatten ∧ ∀ (i : Nat) c, css[i]? = some c → w.cells? base (a.add (i * k)) k = some c := by
    intro m
    induction m with
    | zero => intro _; exact ⟨[], [], by simp, rfl, by simp, rfl, by simp, by simp [flat, VRl], by simp⟩
    | succ m ih =>
      intro hm
      obtain ⟨xs, css, h1, h2, h3, h4, h5, h6, h7⟩ := ih (by omega)
      obtain ⟨cs, x, v, g1, g2, g3, g4, g5, g6⟩ := get m (by omega)
      have ht : elems.take (m + 1) = elems.take m ++ [x] := by rw [List.take_add_one, g1]; rfl
      refine ⟨xs ++ [v], css ++ [cs], ?_, by simp [h2], ?_, by simp [h4], ?_, ?_, ?_⟩
      · rw [ht, List.map_append, List.mapM_append, h1]
        simp [g3]
      · intro y hy
        rcases List.mem_append.1 hy with hy | hy
        · exact h3 y hy
        · simp at hy; subst hy; exact g6
      · intro c hc
        rcases List.mem_append.1 hc with hc | hc
        · exact h5 c hc
        · simp at hc; subst hc; exact ⟨(World.cells?_some g2).2.1, g5⟩
      · have : flat (xs ++ [v]) = flat xs ++ v.cells := by simp [flat]
        rw [this, List.flatten_append]
        exact VRl.append.2 ⟨_, _, rfl, h6, by simpa using g4⟩
      · intro i c hi
        by_cases hlt : i < m
        · rw [List.getElem?_append_left (by omega)] at hi
          exact h7 i c hi
        · rw [List.getElem?_append_right (by omega)] at hi
          have hz : i - css.length = 0 := by
            have := (List.getElem?_eq_some_iff.1 hi).1
            simp at this
            omega
          rw [hz] at hi
          simp at hi
          subst hi
          have : i = m := by omega
          subst this
          exact g2
  obtain ⟨xs, css, h1, h2, h3, h4, h5, h6, h7⟩ := main len (Nat.le_refl _)
  rw [List.take_of_length_le (by omega)] at h1
  have cell : ∀ (i j : Nat) c, css[i]? = some c → j < k → w.cell? (a.add (i * k + j)) = c[j]? := by
    intro i j c hc hj
    have := (World.cells?_some (h7 i c hc)).2.2 j hj
    rw [← this]
    rw [add_add]
  have spot : 0 < len → a.spot = none := fun hpos => by
    obtain ⟨c, hc⟩ : ∃ c, css[0]? = some c := ⟨css[0], by simp⟩
    have hcl := (h5 c (List.mem_of_getElem? hc)).1
    have := cell 0 0 c hc hk0
    have hs : w.cell? (a.add (0 * k + 0)) = some c[0] := by rw [this]; simp [hcl, hk0]
    simpa [Addr.add] using World.cell?_spot hs
  refine ⟨xs, h1, h2, h3, css.flatten, ?_, ?_, h6, spot⟩
  · intro j u hu
    have hcl : ∀ x ∈ css, x.length = k := fun x hx => (h5 x hx).1
    have hjl : j < css.length * k := by
      rw [← flatten_len hcl]
      exact (List.getElem?_eq_some_iff.1 hu).1
    have hi : j / k < css.length := (Nat.div_lt_iff_lt_mul hk0).2 hjl
    have hjm : j % k < k := Nat.mod_lt _ hk0
    have hd : j / k * k + j % k = j := by rw [Nat.mul_comm]; exact Nat.div_add_mod j k
    have h8 := flatten_get hcl (j / k) (j % k) (css[j / k]) (by simp [hi]) hjm
    rw [hd, hu] at h8
    have h9 := cell (j / k) (j % k) (css[j / k]) (by simp [hi]) hjm
    rw [hd, ← h8] at h9
    have hsp := spot (by have := Nat.lt_of_le_of_lt (Nat.zero_le _) hi; omega)
    have ha : a.add j = ⟨a.block, a.off + j, none⟩ := by
      obtain ⟨b, o, sp⟩ := a
      simp only at hsp
      subst hsp
      unfold Addr.add
      split
      · rename_i h0; simp [h0]
      · rfl
    rw [ha] at h9
    exact h9
  · intro u hu
    obtain ⟨c, hc, hu⟩ := List.mem_flatten.1 hu
    exact (h5 c hc).2 u hu

theorem fields_conv {w : World} (hT : ∀ t, TyOK P C t) {n : Nat} {S : List TypeId} {r : TypeId → List Value → Option (DataW H × List MemPlace)}
    (hr : ∀ t cs x, t ∈ S → r t cs = some x → ∃ l, conv C.ti n t x.1 = some l ∧ ConvOK C w t l cs) :
    ∀ (fs : List Field) (o : Nat) (m : Nat) (cs : List Value) (xs : List (DataW H × List MemPlace)), (∀ f ∈ fs, f.type ∈ S ∧ P.cellsOf f.type = (C.ti f.type).size) → tile C.ti o (fs.map fun f => (f.offset, f.type)) m = true → cs.length = m →
      (fs.mapM fun f => r f.type ((cs.drop f.offset).take (P.cellsOf f.type))) = some xs →
      ∃ ls, (((fs.map fun f => (f.offset, f.type)).zip (xs.map (·.1))).mapM fun p => conv C.ti n p.1.2 p.2) = some ls ∧ VRl (kn0 w) ls.flatten (cs.drop o) ∧ Ones (cs.drop o) ∧ ls.flatten.length + o = m ∧ ∀ v ∈ ls.flatten, plainV v = true
  | [], o, m, cs, xs, _, ht, hl, h => by
    simp only [List.mapM_nil] at h
    cases h
    simp only [List.map_nil, tile] at ht
    have := Nat.eq_of_beq_eq_true ht
    refine ⟨[], by simp, ?_, ?_, by simpa using this, by simp⟩
    · rw [List.drop_of_length_le (by omega)]
      rfl
    · rw [List.drop_of_length_le (by omega)]
      intro u hu
      cases hu
  | f :: fs, o, m, cs, xs, hS, ht, hl, h => by
    rw [List.mapM_cons] at h
    simp only [List.map_cons, tile, Bool.and_eq_true] at ht
    have ho := Nat.eq_of_beq_eq_true ht.1
    cases h1 : r f.type ((cs.drop f.offset).take (P.cellsOf f.type)) with
    | none => rw [h1] at h; cases h
    | some x =>
      rw [h1] at h
      cases h2 : (fs.mapM fun f => r f.type ((cs.drop f.offset).take (P.cellsOf f.type))) with
      | none => simp [h2] at h
      | some ys =>
        simp [h2] at h
        subst h
        obtain ⟨l, c1, c2⟩ := hr _ _ _ (hS f (by simp)).1 h1
        obtain ⟨ls, d1, d2, d3, d4, d5⟩ := fields_conv hT hr fs _ m cs ys (fun g hg => hS g (List.mem_cons_of_mem _ hg)) ht.2 hl h2
        have hsz := (hS f (by simp)).2
        have hlen := VRl.length c2.vr
        have hll := c2.len
        rw [ho, hsz] at hlen
        have e : cs.drop o = (cs.drop f.offset).take (P.cellsOf f.type) ++ cs.drop (o + (C.ti f.type).size) := by
          rw [ho, hsz, ← List.drop_drop, List.take_append_drop]
        refine ⟨l :: ls, ?_, ?_, ?_, ?_, ?_⟩
        · simp [c1, d1]
        · rw [List.flatten_cons, e]
          exact VRl.append.2 ⟨_, _, rfl, c2.vr, d2⟩
        · rw [e]
          intro u hu
          rcases List.mem_append.1 hu with hu | hu
          · exact c2.ones u hu
          · exact d3 u hu
        · rw [List.flatten_cons, List.length_append, hll]
          omega
        · intro v hv
          rw [List.flatten_cons] at hv
          rcases List.mem_append.1 hv with hv | hv
          · exact c2.plain v hv
          · exact d5 v hv

theorem trod_conv {w : World} {base : Nat} {spare : Nat → Bool} {held : Bool} (hT : ∀ t, TyOK P C t) {S : List TypeId} (hS : S.all (plainT C.ti S) = true) :
    ∀ (n : Nat) (t : TypeId) (cs : List Value) (x : DataW H × List MemPlace), t ∈ S → DataW.trod enc P w base spare held n t cs = some x → ∃ l, conv C.ti n t x.1 = some l ∧ ConvOK C w t l cs := by
  intro n
  induction n with
  | zero => intro t cs x _ h; simp [DataW.trod] at h
  | succ n ih =>
    intro t cs x ht h
    have hp := List.all_eq_true.1 hS t ht
    have hkind := (hT t).kind
    rw [DataW.trod_step] at h
    unfold plainT at hp
    split at hp
    · -- bool
      rename_i hk
      rw [hk] at hkind
      simp only [KOk] at hkind
      unfold DataW.trodStep at h
      rw [hkind] at h
      split at h <;> first | (cases h; done) | (rename_i hx; cases hx; done) | skip
      rename_i b _
      cases h
      refine ⟨[.bool b], by simp only [conv, hk], vrl_one (by simp only [VR]), ones_one rfl, ?_, by simp [plainV]⟩
      simp [size_one hT (t := t) (by rw [hk]; simp) (by simp [TI.isAgg, hk])]
    · rename_i k hk
      rw [hk] at hkind
      simp only [KOk] at hkind
      unfold DataW.trodStep at h
      rw [hkind] at h
      split at h <;> first | (cases h; done) | (rename_i hx; cases hx; done) | skip
      rename_i k' k'' z hx
      cases hx
      split at h
      · rename_i hc
        cases h
        obtain ⟨rfl, hwf⟩ := hc
        refine ⟨[.int _ z], by simp only [conv, hk]; rw [if_pos ⟨trivial, hwf⟩], vrl_one (by simp only [VR]), ones_one rfl, ?_, by simp [plainV]⟩
        simp [size_one hT (t := t) (by rw [hk]; simp) (by simp [TI.isAgg, hk])]
      · cases h
    · rename_i hk
      rw [hk] at hkind
      simp only [KOk] at hkind
      unfold DataW.trodStep at h
      rw [hkind] at h
      split at h <;> first | (cases h; done) | (rename_i hx; cases hx; done) | skip
      rename_i z _
      split at h
      · rename_i hc
        cases h
        refine ⟨[.str z.data.toList], by simp only [conv, hk]; rw [if_pos (by simpa using hc)], vrl_one (by simp only [VR]; exact ⟨z, rfl, rfl⟩), ones_one rfl, ?_, by simp [plainV]⟩
        simp [size_one hT (t := t) (by rw [hk]; simp) (by simp [TI.isAgg, hk])]
      · cases h
    · rename_i e hk
      simp only [Bool.and_eq_true] at hp
      have he := any_mem hp.1
      have hsz : 0 < (C.ti e).size := by simpa using hp.2
      have hone := size_one hT (t := t) (by rw [hk]; simp) (by simp [TI.isAgg, hk])
      rw [hk] at hkind
      simp only [KOk] at hkind
      have hpe := List.all_eq_true.1 hS e he
      have hke : (C.ti e).k ≠ .bad := fun hb => by simp [plainT, hb] at hpe
      have hce := size_of hT hke
      unfold DataW.trodStep at h
      rw [hkind] at h
      split at h <;> first | (cases h; done) | (rename_i hx; cases hx; done) | skip
      · cases h
        exact ⟨[.nils], by simp only [conv, hk], vrl_one (by simp only [VR]), ones_one rfl, by simp [hone], by simp [plainV]⟩
      · rename_i e' a len cap hx
        cases hx
        simp only at h
        split at h
        · rename_i hc
          simp only [Option.map_eq_some_iff, Option.bind_eq_some_iff] at h
          obtain ⟨elems, h1, rest, h2, rfl⟩ := h
          rw [hce] at h1
          obtain ⟨xs, g1, g2, g3, vs, g4, g5, g6, g7⟩ := rows_conv (w := w) (e := e) hsz (g := fun d => (conv C.ti n e d).bind (ofCells (C.ti e))) (fun cs x hl hx => by
            obtain ⟨l, c1, c2⟩ := ih e cs x he hx
            simp only [c1, Option.bind_some]
            unfold ofCells
            cases ha : (C.ti e).isAgg with
            | true =>
              simp only [cond_true]
              rw [if_pos c2.len]
              exact ⟨_, rfl, c2.vr, c2.ones, c2.len⟩
            | false =>
              have h1 := size_one hT hke ha
              have hlen := c2.len
              rw [h1] at hlen
              obtain ⟨v, rfl⟩ := List.length_eq_one_iff.1 hlen
              have hv := plainV_cells (c2.plain v (by simp))
              exact ⟨v, rfl, by rw [hv]; exact c2.vr, c2.ones, by rw [hv, h1]; rfl⟩) len elems h1
          refine ⟨[.sl xs], ?_, vrl_one (VR_sl.2 ⟨a, len, cap, rfl, g2, hc.2.1, g7, _, vs, g3, g4, g5, g6⟩), ones_one rfl, by simp [hone], by simp [plainV]⟩
          have hel : elems.length = len := by simpa using mapM_some_length h1
          simp only [conv, hk]
          rw [if_pos (by simp [hel]; omega), g1]
          rfl
        · cases h
    · rename_i fs hk
      simp only [Bool.and_eq_true] at hp
      rw [hk] at hkind
      simp only [KOk] at hkind
      obtain ⟨fields, hu, hfs⟩ := hkind
      unfold DataW.trodStep at h
      rw [hu] at h
      simp only at h
      split at h
      · rename_i hc
        simp only [Option.map_eq_some_iff] at h
        obtain ⟨xs, h1, rfl⟩ := h
        have hsz := size_of hT (t := t) (by rw [hk]; simp)
        have hmem : ∀ f ∈ fields.toList, f.type ∈ S ∧ P.cellsOf f.type = (C.ti f.type).size := fun f hf => by
          have : f.type ∈ S := by
            have h2 := List.all_eq_true.1 hp.1 (f.offset, f.type) (by rw [← hfs]; exact List.mem_map.2 ⟨f, hf, rfl⟩)
            exact any_mem h2
          refine ⟨this, size_of hT fun hb => ?_⟩
          have hpe := List.all_eq_true.1 hS _ this
          simp [plainT, hb] at hpe
        obtain ⟨ls, d1, d2, d3, d4, d5⟩ := fields_conv (w := w) hT ih fields.toList 0 (C.ti t).size cs xs hmem (by rw [hfs]; exact hp.2) (by rw [hc, hsz]) h1
        rw [hfs] at d1
        have hll : fs.length = xs.length := by
          have h3 := mapM_some_length h1
          rw [← hfs]
          simp [h3]
        refine ⟨ls.flatten, ?_, by simpa using d2, by simpa using d3, by omega, d5⟩
        simp only [conv, hk]
        rw [if_pos (by simpa using hll), d1]
        rfl
      · cases h
    · cases hp

end

section
variable {P : Program} {C : Cfg}

theorem inv0 (w : World) : Inv C (kn0 w) w.heap.size st0 w where
  im := fun _ _ _ h => h
  locs := fun l x h => by simp [st0] at h
  locn := fun l b h => by cases h
  toks := fun k L h => by simp [st0] at h
  tokn := fun k L e v h => by cases h
  locinj := fun i j b h => by cases h
  tokinj := fun i j L e v L' e' v' b h => by cases h
  loctok := fun l b k L e v h => by cases h
  locim := fun l b o h => by cases h

theorem not_wr0 (w : World) (b : Nat) : ¬ Wr (kn0 w) b := by
  rintro (⟨l, h⟩ | ⟨k, L, e, v, h, _⟩) <;> cases h

/-- what the call leaves of what was there -/
structure Left0 (w w' : World) : Prop where
  os : w'.os = w.os
  output : w'.output = w.output
  heap : ∀ b, b < w.heap.size → w'.heap[b]? = w.heap[b]?
  size : w.heap.size ≤ w'.heap.size

/-- A CALL THAT THE ABSTRACT MACHINE TAKES THROUGH: the model's machine takes it through, with the same answer, and leaves all that was there. -/
theorem entry (hOK : CodeOK P C) {n f : Nat} {l : List AV} {b : Bool} {s' : St} {args : Array Value} {w : World} (hx : C.ext f = none)
    (h : call C n (.f f) l st0 = some (.ret (.val (.bool b)), s')) (hG : GlobOK C (kn0 w)) (hv : VRl (kn0 w) l args.toList) :
    Calls P f args w fun e w' => e = .returned (.bool b) ∧ Left0 w w' := by
  have hcl := call_sim_all hOK n
  have hc := hcl.f f l st0 _ s' h (kn0 w) w.heap.size w args.toList (inv0 w) hG (Nat.le_refl _) hv
  rw [Array.toArray_toList] at hc
  have he := hcl.enter f l st0 _ h (by rw [hx]; rfl) args w
  rcases hc with ⟨v, w', hr, _⟩ | ⟨_, hin⟩
  · rw [he] at hr; cases hr
  · refine (callsIn_wide.1 hin).mono fun e w' ⟨κ', hm, hi, ho⟩ => ?_
    cases e with
    | returned v =>
      simp only [OutR, SR, VR] at ho
      exact ⟨by rw [ho], hm.os, hm.output, fun b hb => hm.frame b hb (not_wr0 w b), hm.size⟩
    | panicked c => exact ho.elim
    | outgrown => exact ho.elim

end
end Go.Am
