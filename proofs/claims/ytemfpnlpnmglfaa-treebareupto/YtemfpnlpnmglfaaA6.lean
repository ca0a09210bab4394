/- The operations that only compute, third part: elements, slices, struct and slice literals. -/
import Derived.Test.YtemfpnlpnmglfaaA5
set_option linter.unusedVariables false
set_option linter.unusedSimpArgs false
namespace Go.Am
open Go Go.RowKit

section ops
variable {P : Program} {C : Cfg} {κ : Kn}

theorem nbad (hT : ∀ t, TyOK P C t) {t : TypeId} (h : (C.ti t).size ≠ 0) : (C.ti t).k ≠ .bad := fun hk => h ((hT t).bad hk)

theorem flat_length {l : List AV} {sz : Nat} (h : ∀ x ∈ l, x.cells.length = sz) : (flat l).length = l.length * sz := by
  induction l with
  | nil => simp [flat]
  | cons x l ih =>
    have := ih (fun y hy => h y (List.mem_cons_of_mem _ hy))
    have hx := h x List.mem_cons_self
    simp only [flat, List.flatMap_cons, List.length_append, List.length_cons] at this ⊢
    rw [this, hx, Nat.add_mul]
    omega

theorem flat_drop {sz : Nat} : ∀ {l : List AV} (n : Nat), (∀ x ∈ l, x.cells.length = sz) → (flat l).drop (n * sz) = flat (l.drop n)
  | [], n, _ => by simp [flat]
  | x :: l, 0, _ => by simp
  | x :: l, n + 1, h => by
    have hx := h x List.mem_cons_self
    have ih := flat_drop (l := l) n (fun y hy => h y (List.mem_cons_of_mem _ hy))
    have : (n + 1) * sz = sz + n * sz := by rw [Nat.add_mul]; omega
    rw [this, ← List.drop_drop]
    simp only [flat, List.flatMap_cons, List.drop_succ_cons] at ih ⊢
    rw [← hx, List.drop_left, hx]
    exact ih

theorem flat_take {sz : Nat} : ∀ {l : List AV} (n : Nat), (∀ x ∈ l, x.cells.length = sz) → (flat l).take (n * sz) = flat (l.take n)
  | [], n, _ => by simp [flat]
  | x :: l, 0, _ => by simp [flat]
  | x :: l, n + 1, h => by
    have hx := h x List.mem_cons_self
    have ih := flat_take (l := l) n (fun y hy => h y (List.mem_cons_of_mem _ hy))
    have : (n + 1) * sz = x.cells.length + n * sz := by rw [Nat.add_mul, hx]; omega
    rw [this]
    simp only [flat, List.flatMap_cons, List.take_succ_cons] at ih ⊢
    rw [List.take_append, List.take_of_length_le (by omega)]
    simp [ih]

theorem flat_elem {sz : Nat} {l : List AV} {n : Nat} {x : AV} (h : ∀ x ∈ l, x.cells.length = sz) (hx : l[n]? = some x) : ((flat l).drop (n * sz)).take sz = x.cells := by
  have hn : l.drop n = x :: l.drop (n + 1) := by
    obtain ⟨hlt, he⟩ := List.getElem?_eq_some_iff.1 hx
    rw [List.drop_eq_getElem_cons hlt, he]
  have hs := h x (List.mem_of_getElem? hx)
  rw [flat_drop n h, hn]
  simp only [flat, List.flatMap_cons]
  rw [← hs, List.take_left]

theorem Held.take {a : Addr} {vs : List Value} (h : Held κ a vs) (n : Nat) : Held κ a (vs.take n) := fun j u hu => by
  rw [List.getElem?_take] at hu
  split at hu
  · exact h j u hu
  · cases hu

/-- an element, from constant memory -/
theorem SlA.elem {l : List AV} {a : Addr} {n c i sz : Nat} {x : AV} (h : SlA κ l a n c) (hx : l[i]? = some x) (hsz : x.cells.length = sz) : VR κ (.cp x.cells) (.pointer (some (a.add (i * sz)))) := by
  obtain ⟨h1, h2, h3, sz', vs, h4, h5, h6, h7⟩ := h
  have hmem := List.mem_of_getElem? hx
  have e : sz' = sz := by rw [← hsz, h4 x hmem]
  subst e
  have hpos : 0 < n := by rw [← h1]; exact List.length_pos_of_mem hmem
  have hsp := h3 hpos
  simp only [VR]
  refine ⟨_, (vs.drop (i * sz')).take sz', rfl, ?_, (h5.drop hsp _).take _, (h6.drop _).take _, ?_⟩
  · obtain ⟨b, o, sp⟩ := a
    simp only at hsp
    subst hsp
    rw [add_plain]
  · have := (h7.drop (i * sz')).take sz'
    rwa [flat_elem h4 hx] at this

theorem ix_sim (hT : ∀ t, TyOK P C t) {t e : TypeId} (hk : (C.ti t).k = .slice e) (w : World) {sx si sl : Slot} {u v : Value} (hx : SR κ sx u) (hi : SR κ si v) (h : ixS (C.ti e).size sx si = some sl) :
    ∃ z, (Instr.indexAt t u v).run P w = .ok z w ∧ SR κ sl z := by
  have hK := (hT t).kind
  rw [hk] at hK; simp only [KOk] at hK
  unfold ixS at h
  split at h
  · rename_i l _ k n hl
    simp only [SR, VR] at hi
    subst hi
    obtain ⟨a, m, c, rfl, h1, h2, h3, h4⟩ := hx.list hl
    split at h
    · rename_i hb
      split at h
      · rename_i x hx'
        split at h
        · rename_i hs
          obtain ⟨hs, h0⟩ := hs
          have h0 : (C.ti e).size ≠ 0 := by omega
          cases h
          cases a with
          | none => rw [h4 rfl] at hx'; simp at hx'
          | some a =>
            have hz := run_sizeOf' (P := P) hT (nbad hT h0) w
            refine ⟨.pointer (some (a.add (n.toNat * (C.ti e).size))), ?_, (h3 a rfl).elem hx' hs⟩
            have hb' : 0 ≤ n ∧ n < (m : Int) := by rw [← h1]; exact hb
            simp [Instr.indexAt, asIntOf, run_underlying hK, hb', hz]
        · cases h
      · cases h
    · cases h
  · cases h

theorem ixA_sim (hT : ∀ t, TyOK P C t) {t e : TypeId} {m : Nat} (hk : (C.ti t).k = .array m e) (w : World) {sx si sl : Slot} {u v : Value} (hx : SR κ sx u) (hi : SR κ si v) (h : ixA m (C.ti e).size sx si = some sl) :
    ∃ z, (Instr.indexAt t u v).run P w = .ok z w ∧ SR κ sl z := by
  have hK := (hT t).kind
  rw [hk] at hK; simp only [KOk] at hK
  unfold ixA at h
  split at h
  · rename_i k j
    simp only [SR, VR] at hi
    subst hi
    split at h
    · rename_i hb
      obtain ⟨hb, h0⟩ := hb
      have h0 : (C.ti e).size ≠ 0 := by omega
      obtain ⟨a, rfl, hr⟩ := faV_sim hx h
      have hz := run_sizeOf' (P := P) hT (nbad hT h0) w
      exact ⟨_, by simp [Instr.indexAt, asIntOf, run_underlying hK, hb, hz, Instr.sureAddr], hr⟩
    · cases h
  · cases h

/-! ### values out of cells -/

theorem isAgg_run (hT : ∀ t, TyOK P C t) {t : TypeId} (hb : (C.ti t).k ≠ .bad) (w : World) : (isAgg t).run P w = .ok (C.ti t).isAgg w := by
  have hK := (hT t).kind
  cases hk : (C.ti t).k <;> rw [hk] at hK <;> simp only [KOk] at hK <;> simp only [TI.isAgg, hk]
  case bad => exact absurd hk hb
  all_goals
    first
      | simp [isAgg, run_underlying hK]
      | (obtain ⟨_, hK⟩ := hK; simp [isAgg, run_underlying hK])
      | (obtain ⟨_, hK, _⟩ := hK; simp [isAgg, run_underlying hK])
      | (obtain ⟨_, _, _, hK⟩ := hK; simp [isAgg, run_underlying hK])

/-- the value that stands in given cells -/
theorem ofCells_VR {t : TI} {cs : List AV} {vs : List Value} {v : AV} (hc : VRl κ cs vs) (ho : Ones vs) (h : ofCells t cs = some v) :
    (t.isAgg = true ∧ vs.length = t.size ∧ VR κ v (.agg vs.toArray)) ∨ (t.isAgg = false ∧ ∃ u, vs = [u] ∧ VR κ v u) := by
  unfold ofCells at h
  cases ha : t.isAgg with
  | true =>
    rw [ha] at h
    simp only [cond_true] at h
    split at h
    · rename_i hl
      cases h
      exact .inl ⟨rfl, by rw [← hc.length]; exact hl, by simp only [VR]; exact ⟨vs, hc, ho, rfl⟩⟩
    · cases h
  | false =>
    rw [ha] at h
    simp only [cond_false] at h
    split at h
    · cases h
      simp only [VRl] at hc
      obtain ⟨u, us, rfl, h1, rfl⟩ := hc
      exact .inr ⟨rfl, u, rfl, h1⟩
    · cases h

theorem part_sim (hT : ∀ t, TyOK P C t) {t : TypeId} (hb : (C.ti t).k ≠ .bad) {l : List AV} {vs : List Value} {off : Nat} {v : AV} (hc : VRl κ l vs) (ho : Ones vs) (h : ofCells (C.ti t) ((l.drop off).take (C.ti t).size) = some v) (w : World) :
    ∃ z, (part t vs.toArray off).run P w = .ok z w ∧ VR κ v z := by
  have ha := isAgg_run (P := P) hT hb w
  have hs := run_sizeOf' (P := P) hT hb w
  obtain ⟨i, z0, _, _, _, _, _, _, _, _, hone⟩ := (hT t).info hb
  rcases ofCells_VR ((hc.drop off).take (C.ti t).size) ((ho.drop off).take _) h with ⟨h1, h2, h3⟩ | ⟨h1, u, h2, h3⟩
  · refine ⟨_, ?_, h3⟩
    rw [h1] at ha
    simp only [part, Sem.run_bind, ha, Result.andThen_ok, if_true, hs, Sem.run_pure]
    congr 1
    congr 1
    apply Array.toList_inj.1
    simp [List.extract_eq_take_drop]
  · refine ⟨u, ?_, h3⟩
    rw [h1] at ha
    have h1s := (hone h1).2
    have hv : vs.toArray[off]? = some u := by
      rw [h1s] at h2
      have := congrArg (·[0]?) h2
      simpa using this
    simp [part, ha, hv]

theorem field_sim (hT : ∀ t, TyOK P C t) {t : TypeId} {f off : Nat} {ft : TypeId} (h : structField (C.ti t) f = some (off, ft)) (w : World) {sx sl : Slot} {u : Value} (hx : SR κ sx u) (hf : fieldS (C.ti t) (C.ti ft) off sx = some sl) :
    ∃ z, (Instr.field t u f).run P w = .ok z w ∧ SR κ sl z := by
  obtain ⟨fields, g, h1, h2, h3, h4⟩ := field_of hT h
  unfold fieldS at hf
  split at hf
  · rename_i l
    split at hf
    · rename_i h0
      have h0 : (C.ti ft).size ≠ 0 := by omega
      split at hf
      · rename_i v hv
        cases hf
        simp only [SR, VR] at hx
        obtain ⟨vs, hc, ho, rfl⟩ := hx
        obtain ⟨z, hz, hr⟩ := part_sim hT (nbad hT h0) hc ho hv w
        refine ⟨z, ?_, hr⟩
        subst h4; subst h3
        simp [Instr.field, run_underlying h1, h2, asAgg, hz]
      · cases hf
    · cases hf
  · cases hf

theorem index_sim (hT : ∀ t, TyOK P C t) {t e : TypeId} (he : ∀ n e', (C.ti t).k = .array n e' → e' = e) (w : World) {sx si sl : Slot} {u v : Value} (hx : SR κ sx u) (hi : SR κ si v) (h : indexS (C.ti t) (C.ti e) sx si = some sl) :
    ∃ z, (Instr.index t u v).run P w = .ok z w ∧ SR κ sl z := by
  have hK := (hT t).kind
  unfold indexS at h
  split at h
  · rename_i k n
    simp only [SR, VR] at hi
    subst hi
    split at h
    · rename_i hk
      rw [hk] at hK; simp only [KOk] at hK
      split at h
      · rename_i l
        split at h
        · rename_i h0
          split at h
          · rename_i b hb
            cases h
            simp only [SR, VR] at hx
            obtain ⟨s, rfl, rfl⟩ := hx
            have hs : s[n.toNat]? = some b := by
              simp only [Array.getElem?_toList] at hb
              obtain ⟨hlt, e⟩ := Array.getElem?_eq_some_iff.1 hb
              have hlt' : n.toNat < s.size := hlt
              rw [show s[n.toNat]? = some s[n.toNat] from getElem?_pos s n.toNat hlt']
              exact congrArg some e
            exact ⟨.int .u8 b.toNat, by simp [Instr.index, asIntOf, run_underlying hK, h0, hs], by simp [SR, VR]⟩
          · cases h
        · cases h
      · cases h
    · rename_i len e' hk
      rw [hk] at hK; simp only [KOk] at hK
      have := he _ _ hk
      subst this
      split at h
      · rename_i l
        split at h
        · rename_i hb
          obtain ⟨hb, h0⟩ := hb
          have h0 : (C.ti e').size ≠ 0 := by omega
          split at h
          · rename_i x hx'
            cases h
            simp only [SR, VR] at hx
            obtain ⟨vs, hc, ho, rfl⟩ := hx
            obtain ⟨z, hz, hr⟩ := part_sim hT (nbad hT h0) hc ho hx' w
            have hs := run_sizeOf' (P := P) hT (nbad hT h0) w
            exact ⟨z, by simp [Instr.index, asIntOf, run_underlying hK, hb, hs, hz], hr⟩
          · cases h
        · cases h
      · cases h
    · cases h
  · cases h

end ops
end Go.Am
