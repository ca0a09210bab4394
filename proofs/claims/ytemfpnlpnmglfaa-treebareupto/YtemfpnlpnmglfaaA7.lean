/- The operations that only compute, fourth part: slices of slices and strings; struct and slice literals; functions and interfaces. -/
import Derived.Test.YtemfpnlpnmglfaaA6
import Derived.Laws.Slices
set_option linter.unusedVariables false
set_option linter.unusedSimpArgs false
namespace Go.Am
open Go Go.RowKit

section ops
variable {P : Program} {C : Cfg} {κ : Kn}

def OptR (κ : Kn) : Option Slot → Option Value → Prop
  | none, none => True
  | some s, some v => SR κ s v
  | _, _ => False

theorem bound_some {x : Slot} {v : Value} (hx : SR κ x v) {d most n : Nat} (h : bound (some x) d most = some n) : n ≤ most ∧ ∀ (code : BoundsCode) (cap : Nat) (w : World), most ≤ cap → (Instr.sliceBound v cap code).run P w = .ok n w := by
  unfold bound at h
  split at h
  · rename_i h'; cases h'
  · rename_i k i h'
    cases h'
    split at h
    · rename_i hb
      cases h
      simp only [SR, VR] at hx
      subst hx
      refine ⟨by omega, fun code cap w hc => run_sliceBound w k i cap code hb.1 (by omega)⟩
    · cases h
  · cases h

theorem bound_none {d most n : Nat} (h : bound none d most = some n) : n = d := by
  unfold bound at h
  cases h
  rfl

theorem bound_le {x : Option Slot} {d most n : Nat} (hd : d ≤ most) (h : bound x d most = some n) : n ≤ most := by
  unfold bound at h
  split at h
  · cases h; exact hd
  · split at h
    · cases h; omega
    · cases h
  · cases h

theorem SR.list_some {s : Slot} {v : Value} {l : List AV} (h : SR κ s v) (hl : s.list? = some l) (hn : s ≠ .val .nils) : ∃ a n c, v = .slice (some a) n c ∧ SlA κ l a n c := by
  cases s <;> simp only [Slot.list?] at hl
  case und => cases hl
  case no => cases hl
  case val x =>
    cases x <;> simp only [] at hl
    case nils => exact absurd rfl hn
    case sl m => cases hl; exact VR_sl.1 h
    all_goals cases hl
  case own k e m => cases hl; exact h.1
  case full m => cases hl; obtain ⟨a, n, rfl, hs⟩ := h; exact ⟨a, n, n, rfl, hs⟩

theorem bounds2 {lo hi : Option Slot} {lv hv : Option Value} (h1 : OptR κ lo lv) (h2 : OptR κ hi hv) {len cap h a : Nat} (hlc : len ≤ cap) (b : Bool) (e1 : bound hi len len = some h) (e2 : bound lo 0 h = some a) (w : World) :
    (Instr.sliceBounds b len cap lv hv none).run P w = .ok (a, h, cap) w ∧ a ≤ h ∧ h ≤ len := by
  have hh : h ≤ len := by
    cases hi with
    | none => rw [bound_none e1]; exact Nat.le_refl _
    | some s =>
      cases hv with
      | none => exact h2.elim
      | some v => exact (bound_some (P := P) h2 e1).1
  have ha : a ≤ h := by
    cases lo with
    | none => rw [bound_none e2]; exact Nat.zero_le _
    | some s =>
      cases lv with
      | none => exact h1.elim
      | some v => exact (bound_some (P := P) h1 e2).1
  refine ⟨?_, ha, hh⟩
  cases hi with
  | none =>
    cases hv with
    | some v => exact h2.elim
    | none =>
      have := bound_none e1
      subst this
      cases lo with
      | none =>
        cases lv with
        | some v => exact h1.elim
        | none => have := bound_none e2; subst this; simp [Instr.sliceBounds]
      | some s =>
        cases lv with
        | none => exact h1.elim
        | some v => simp [Instr.sliceBounds, (bound_some (P := P) h1 e2).2 _ _ _ (Nat.le_refl _)]
  | some sh =>
    cases hv with
    | none => exact h2.elim
    | some v =>
      have e3 := (bound_some (P := P) h2 e1).2
      cases lo with
      | none =>
        cases lv with
        | some v => exact h1.elim
        | none => have := bound_none e2; subst this; simp [Instr.sliceBounds, e3 _ _ _ hlc]
      | some s =>
        cases lv with
        | none => exact h1.elim
        | some v => simp [Instr.sliceBounds, e3 _ _ _ hlc, (bound_some (P := P) h1 e2).2 _ _ _ (Nat.le_refl _)]

theorem bounds3 {lo : Option Slot} {hi mx : Slot} {lv : Option Value} {hv mv : Value} (h1 : OptR κ lo lv) (h2 : SR κ hi hv) (h3 : SR κ mx mv) {len cap c h a : Nat} (hlc : len ≤ cap) (b : Bool) (e0 : bound (some mx) 0 len = some c) (e1 : bound (some hi) 0 c = some h) (e2 : bound lo 0 h = some a) (w : World) :
    (Instr.sliceBounds b len cap lv (some hv) (some mv)).run P w = .ok (a, h, c) w ∧ a ≤ h ∧ h ≤ c ∧ c ≤ len := by
  have e3 := bound_some (P := P) h3 e0
  have e4 := bound_some (P := P) h2 e1
  have ha : a ≤ h := by
    cases lo with
    | none => rw [bound_none e2]; exact Nat.zero_le _
    | some s =>
      cases lv with
      | none => exact h1.elim
      | some v => exact (bound_some (P := P) h1 e2).1
  refine ⟨?_, ha, e4.1, e3.1⟩
  cases lo with
  | none =>
    cases lv with
    | some v => exact h1.elim
    | none => have := bound_none e2; subst this; simp [Instr.sliceBounds, e3.2 _ _ _ hlc, e4.2 _ _ _ (Nat.le_refl _)]
  | some s =>
    cases lv with
    | none => exact h1.elim
    | some v => simp [Instr.sliceBounds, e3.2 _ _ _ hlc, e4.2 _ _ _ (Nat.le_refl _), (bound_some (P := P) h1 e2).2 _ _ _ (Nat.le_refl _)]

/-- a part of a slice -/
theorem SlA.part {l : List AV} {a : Addr} {n c sz x h m : Nat} (k : SlA κ l a n c) (hsz : ∀ v ∈ l, v.cells.length = sz) (hx : x ≤ h) (hh : h ≤ n) (hm : h ≤ m) :
    SlA κ ((l.take h).drop x) (if m = x then a else a.add (x * sz)) (h - x) (m - x) := by
  obtain ⟨h1, h2, h3, sz', vs, h4, h5, h6, h7⟩ := k
  refine ⟨by simp; omega, by omega, fun hp => ?_, sz, (vs.take (h * sz)).drop (x * sz), fun v hv => hsz v (List.mem_of_mem_take (List.mem_of_mem_drop hv)), ?_, (h6.take _).drop _, ?_⟩
  · have hs := h3 (by omega)
    split
    · exact hs
    · obtain ⟨b, o, sp⟩ := a
      simp only at hs
      subst hs
      rw [add_plain]
  · by_cases hmx : m = x
    · have hxh : x = h := by omega
      subst hxh
      intro j u hu
      have : (vs.take (x * sz)).drop (x * sz) = [] := List.drop_of_length_le (by simp; omega)
      rw [this] at hu
      simp at hu
    · rw [if_neg hmx]
      by_cases hp : 0 < n
      · exact (h5.take _).drop (h3 hp) _
      · have hn : n = 0 := by omega
        have : l = [] := List.length_eq_zero_iff.1 (by omega)
        subst this
        simp only [flat, List.flatMap_nil, VRl] at h7
        subst h7
        intro j u hu
        simp at hu
  · have := (h7.take (h * sz)).drop (x * sz)
    rwa [flat_take h hsz, flat_drop x (fun v hv => hsz v (List.mem_of_mem_take hv))] at this

theorem slice_sim (hT : ∀ t, TyOK P C t) {t : TypeId} {sz : Nat} (hsz : ∀ e, (C.ti t).k = .slice e → sz = (C.ti e).size) (w : World) {sx sl : Slot} {u : Value} {lo hi mx : Option Slot} {lv hv mv : Option Value}
    (hx : SR κ sx u) (h1 : OptR κ lo lv) (h2 : OptR κ hi hv) (h3 : OptR κ mx mv) (h : sliceS (C.ti t) sz sx lo hi mx = some sl) :
    ∃ z, (Instr.sliceAt t u lv hv mv).run P w = .ok z w ∧ SR κ sl z := by
  have hK := (hT t).kind
  unfold sliceS at h
  split at h
  · rename_i hk
    rw [hk] at hK; simp only [KOk] at hK
    split at h
    · rename_i l
      split at h
      · cases h
      · cases mv with
        | some v => exact h3.elim
        | none =>
          split at h
          · rename_i hh e1
            split at h
            · rename_i a e2
              cases h
              simp only [SR, VR] at hx
              obtain ⟨s, rfl, rfl⟩ := hx
              have hl : s.data.toList.length = s.size := by simp
              rw [hl] at e1
              obtain ⟨r, ha, hb⟩ := bounds2 (P := P) h1 h2 (Nat.le_refl _) false e1 e2 w
              refine ⟨.string (s.extract a hh), by simp [run_sliceAt_string w t _ _ _ _ hK, Instr.slice, run_underlying hK, r], ?_⟩
              refine ⟨s.extract a hh, ?_, rfl⟩
              simp [ByteArray.extract, ByteArray.copySlice, List.drop_take]
              try omega
            · cases h
          · cases h
    · cases h
  · rename_i e hk
    have hel := (hT t).elem e hk
    rw [hk] at hK; simp only [KOk] at hK
    have hK' : P.underlying t = some (.slice (P.elem t)) := by rw [hK]; simp [Program.elem, hK]
    have hee : P.elem t = e := by rw [hK] at hK'; injection hK' with hK'; injection hK' with hK'; exact hK'.symm
    obtain ⟨i, hi'⟩ := Option.isSome_iff_exists.1 hel
    have hs0 : (sizeOf (P.elem t)).run P w = .ok i.size w := by rw [hee]; simp [sizeOf, typeInfo, hi']
    split at h
    · split at h
      · cases h
      · cases mv with
        | some v => exact h3.elim
        | none =>
          split at h
          · rename_i hh e1
            split at h
            · rename_i a e2
              cases h
              simp only [SR, VR] at hx
              subst hx
              have h0 : hh = 0 := by have := bound_le (Nat.le_refl 0) e1; omega
              subst h0
              obtain ⟨r, ha, hb⟩ := bounds2 (P := P) h1 h2 (Nat.le_refl 0) true e1 e2 w
              have h0 : a = 0 := by omega
              subst h0
              refine ⟨.slice none 0 0, ?_, by simp only [SR, VR]⟩
              rw [run_sliceAt_slice w t _ _ _ _ hK', run_slice_any w t _ _ _ hK', r, Result.andThen_ok, hs0, Result.andThen_ok]
              simp [sliced]
            · cases h
          · cases h
    · rename_i x hnn
      split at h
      · rename_i l hl
        cases hc : (l.all (fun v => v.cells.length == sz) && Nat.blt 0 sz) with
        | false => rw [hc] at h; cases h
        | true =>
          rw [hc] at h
          simp only [cond_true] at h
          simp only [Bool.and_eq_true, List.all_eq_true, beq_iff_eq] at hc
          obtain ⟨hall, hpos⟩ := hc
          have hsz' := hsz e hk
          have hpos' : (C.ti e).size ≠ 0 := by
            rw [← hsz']
            intro h0
            rw [h0] at hpos
            cases hpos
          have hs0 : (sizeOf (P.elem t)).run P w = .ok sz w := by rw [hee, hsz']; exact run_sizeOf' hT (nbad hT hpos') w
          obtain ⟨b, n, c, rfl, g3⟩ := hx.list_some hl (fun e => hnn e)
          have g1 := g3.1
          have g2 := g3.2.1
          split at h
          · cases mv with
            | some v => exact h3.elim
            | none =>
              split at h
              · rename_i hh e1
                split at h
                · rename_i a e2
                  cases h
                  rw [g1] at e1
                  obtain ⟨r, ha, hb⟩ := bounds2 (P := P) h1 h2 g2 true e1 e2 w
                  have := g3.part hall ha hb (Nat.le_trans hb g2)
                  refine ⟨_, ?_, VR_sl.2 ⟨_, _, _, rfl, this⟩⟩
                  rw [run_sliceAt_slice w t _ _ _ _ hK', run_slice_any w t _ _ _ hK', r, Result.andThen_ok, hs0, Result.andThen_ok]
                  simp only [sliced]
                  split <;> simp_all
                · cases h
              · cases h
          · cases mv with
            | none => exact h3.elim
            | some mv =>
              split at h
              · rename_i cc e0
                split at h
                · cases hv with
                  | none => exact h2.elim
                  | some hv =>
                    split at h
                    · rename_i hh e1
                      split at h
                      · rename_i a e2
                        rw [g1] at e0
                        obtain ⟨r, ha, hb, hcc⟩ := bounds3 (P := P) h1 h2 h3 g2 true e0 e1 e2 w
                        have := g3.part (m := cc) hall ha (by omega) hb
                        have run : (Instr.sliceAt t (.slice (some b) n c) lv (some hv) (some mv)).run P w = .ok (.slice (some (if cc = a then b else b.add (a * sz))) (hh - a) (cc - a)) w := by
                          rw [run_sliceAt_slice w t _ _ _ _ hK', run_slice_any w t _ _ _ hK', r, Result.andThen_ok, hs0, Result.andThen_ok]
                          simp only [sliced]
                          split <;> simp_all
                        cases hq : Nat.beq hh cc with
                        | true =>
                          rw [hq] at h
                          cases h
                          have hq' := Nat.eq_of_beq_eq_true hq
                          subst hq'
                          exact ⟨_, run, _, _, rfl, this⟩
                        | false =>
                          rw [hq] at h
                          cases h
                          exact ⟨_, run, VR_sl.2 ⟨_, _, _, rfl, this⟩⟩
                      · cases h
                    · cases h
                · cases h
              · cases h
      · cases h
  · cases h

end ops
end Go.Am
