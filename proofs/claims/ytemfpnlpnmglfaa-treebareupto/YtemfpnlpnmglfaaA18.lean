/- A region that draws its order. -/
import Derived.Test.YtemfpnlpnmglfaaA17
set_option linter.unusedVariables false
set_option linter.unusedSimpArgs false
namespace Go.Am
open Go Go.RowKit

/-- i waits for j -/
inductive Dep (all : List Oper) : Nat → Nat → Prop where
  | one {i : Nat} {o : Oper} {ed : Edge} (h : all[i]? = some o) (he : ed ∈ o.after.toList) (hb : bindsAll ed = true) : Dep all i ed.on
  | more {i : Nat} {o : Oper} {ed : Edge} {j : Nat} (h : all[i]? = some o) (he : ed ∈ o.after.toList) (hb : bindsAll ed = true) (k : Dep all ed.on j) : Dep all i j

theorem Dep.first {all : List Oper} {i j : Nat} (h : Dep all i j) : ∃ o ed, all[i]? = some o ∧ ed ∈ o.after.toList ∧ bindsAll ed = true ∧ (ed.on = j ∨ Dep all ed.on j) := by
  cases h with
  | one h he hb => exact ⟨_, _, h, he, hb, .inl rfl⟩
  | more h he hb k => exact ⟨_, _, h, he, hb, .inr k⟩

def PairR (C : Cfg) (r : Bool) (f : FuncId) (all : List Oper) (p q : Nat × (Oper × Option Nat)) : Prop := p.1 < q.1 ∧ (Dep all q.1 p.1 ∨ comm C r f all p.2 q.2 = true)

theorem mem_addNew {l : List Nat} {i j : Nat} (h : j ∈ addNew l i) : j ∈ l ∨ j = i := by
  unfold addNew at h
  cases hb : l.any (Nat.beq i) with
  | true => rw [hb] at h; exact .inl h
  | false => rw [hb] at h; exact (List.mem_cons.1 h).symm

theorem mem_addAll : ∀ {m l : List Nat} {j : Nat}, j ∈ addAll l m → j ∈ l ∨ j ∈ m
  | [], _, _, h => .inl h
  | i :: m, l, j, h => by
    rcases mem_addAll (m := m) (l := addNew l i) h with h | h
    · rcases mem_addNew h with h | h
      · exact .inl h
      · exact .inr (by rw [h]; exact List.mem_cons_self)
    · exact .inr (List.mem_cons_of_mem _ h)

theorem ancs_dep (all : List Oper) : ∀ (os : List Oper) (acc : List (List Nat)) (pre : List Oper), pre ++ os = all → acc.length = pre.length → (∀ i j, j ∈ acc.getD i [] → Dep all i j) → ∀ i j, j ∈ (ancsGo acc os).getD i [] → Dep all i j
  | [], acc, _, _, _, h => h
  | o :: os, acc, pre, hp, hl, h => by
    refine ancs_dep all os _ (pre ++ [o]) (by simpa using hp) (by simp [hl]) fun i j hj => ?_
    rw [List.getD_eq_getElem?_getD] at hj
    by_cases hi : i < acc.length
    · rw [List.getElem?_append_left hi] at hj
      exact h i j (by rw [List.getD_eq_getElem?_getD]; exact hj)
    · rw [List.getElem?_append_right (by omega)] at hj
      have hi0 : i = pre.length := by
        cases hq : i - acc.length with
        | zero => omega
        | succ n => rw [hq] at hj; simp at hj
      subst hi0
      rw [hl, Nat.sub_self] at hj
      simp only [List.getElem?_cons_zero, Option.getD_some] at hj
      have ho : all[pre.length]? = some o := by rw [← hp]; simp
      have key : ∀ (es : List Edge) (l : List Nat), (∀ e ∈ es, e ∈ o.after.toList ∧ bindsAll e = true) → (∀ x ∈ l, Dep all pre.length x) → ∀ x ∈ es.foldl (fun l e => addAll (addNew l e.on) (acc.getD e.on [])) l, Dep all pre.length x := by
        intro es
        induction es with
        | nil => intro l _ hl x hx; exact hl x hx
        | cons e es ih =>
          intro l he hl x hx
          refine ih _ (fun e' h' => he e' (List.mem_cons_of_mem _ h')) (fun y hy => ?_) x hx
          obtain ⟨k1, k2⟩ := he e List.mem_cons_self
          rcases mem_addAll hy with hy | hy
          · rcases mem_addNew hy with hy | hy
            · exact hl y hy
            · subst hy; exact .one ho k1 k2
          · exact .more ho k1 k2 (h e.on y hy)
      exact key _ [] (fun e he => by simpa using he) (by simp) j hj

theorem mkL_ge : ∀ {n : Nat} {os : List Oper} {rts : List (Option Nat)} {p : Nat × (Oper × Option Nat)}, p ∈ mkL n os rts → n ≤ p.1 ∧ os[p.1 - n]? = some p.2.1
  | _, [], _, p, h => by simp [mkL] at h
  | n, o :: os, rts, p, h => by
    simp only [mkL, List.mem_cons] at h
    rcases h with rfl | h
    · exact ⟨Nat.le_refl _, by simp⟩
    · obtain ⟨h1, h2⟩ := mkL_ge h
      refine ⟨by omega, ?_⟩
      have : p.1 - n = (p.1 - (n + 1)) + 1 := by omega
      rw [this, List.getElem?_cons_succ]
      exact h2

theorem mkL_all : ∀ {n : Nat} {os : List Oper} {rts : List (Option Nat)} {i : Nat}, i < os.length → ∃ p ∈ mkL n os rts, p.1 = n + i
  | _, [], _, i, h => by simp at h
  | n, o :: os, rts, 0, _ => ⟨_, List.mem_cons_self, rfl⟩
  | n, o :: os, rts, i + 1, h => by
    obtain ⟨p, hp, he⟩ := mkL_all (n := n + 1) (rts := rts.tail) (i := i) (by simpa using h)
    exact ⟨p, List.mem_cons_of_mem _ hp, by omega⟩

theorem mkL_len : ∀ {n : Nat} {os : List Oper} {rts : List (Option Nat)}, (mkL n os rts).length = os.length
  | _, [], _ => rfl
  | n, o :: os, rts => by simp [mkL, mkL_len]

def rkM (rk : List Nat) (md : Region.Mode) (i : Nat) : Nat := match md with
  | .gc => rkOf rk i
  | _ => i

theorem blt_lt {a b : Nat} (h : Nat.blt a b = true) : a < b := Nat.le_of_ble_eq_true h

theorem edgeOK_spec {rk : List Nat} {n i : Nat} {e : Edge} {md : Region.Mode} (h : edgeOK rk n i e = true) (hb : Region.binds md e = true) : e.on < n ∧ rkM rk md e.on < rkM rk md i := by
  unfold edgeOK at h
  simp only [Bool.and_eq_true] at h
  obtain ⟨h1, h2⟩ := h
  refine ⟨blt_lt h1, ?_⟩
  unfold Region.binds at hb
  split at h2
  · rename_i hg
    rw [hg] at hb
    cases md <;> first | exact blt_lt h2 | cases hb
  · rename_i hg
    rw [hg] at hb
    cases md <;> first | exact blt_lt h2 | cases hb
  · simp only [Bool.and_eq_true] at h2
    cases md <;> first | exact blt_lt h2.1 | exact blt_lt h2.2

theorem drawGo_pairs {C : Cfg} {r : Bool} {f : FuncId} {all : List Oper} {rk : List Nat} {nn : Nat} {A : List (List Nat)} (hA : ∀ i j, j ∈ A.getD i [] → Dep all i j) : ∀ {n : Nat} {os : List Oper} {rts : List (Option Nat)}, drawGo C r f all rk nn A (mkL n os rts) = true →
    (mkL n os rts).Pairwise (PairR C r f all) ∧ ∀ p ∈ mkL n os rts, ∀ e ∈ p.2.1.after.toList, edgeOK rk nn p.1 e = true
  | _, [], _, _ => ⟨.nil, by simp [mkL]⟩
  | n, o :: os, rts, h => by
    simp only [mkL, drawGo, Bool.and_eq_true, List.all_eq_true] at h
    obtain ⟨h1, h2, h3⟩ := h
    obtain ⟨k1, k2⟩ := drawGo_pairs hA h3
    refine ⟨List.pairwise_cons.2 ⟨fun q hq => ⟨(mkL_ge hq).1, by
      have h4 := h2 q hq
      rw [Bool.or_eq_true] at h4
      rcases h4 with h4 | h4
      · obtain ⟨x, hx, hxe⟩ := List.any_eq_true.1 h4
        have := Nat.eq_of_beq_eq_true hxe
        subst this
        exact .inl (hA _ _ hx)
      · exact .inr h4⟩, k1⟩, fun p hp e he => ?_⟩
    simp only [mkL, List.mem_cons] at hp
    rcases hp with rfl | hp
    · exact h1 e he
    · exact k2 p hp e he

theorem least {α : Type} (g : α → Nat) : ∀ (x : α) (l : List α), ∃ p ∈ x :: l, ∀ q ∈ x :: l, g p ≤ g q
  | x, [] => ⟨x, by simp, fun q hq => by simp at hq; subst hq; exact Nat.le_refl _⟩
  | x, y :: l => by
    obtain ⟨p, hp, h⟩ := least g y l
    rcases Nat.le_total (g x) (g p) with hle | hle
    · exact ⟨x, by simp, fun q hq => by
        rcases List.mem_cons.1 hq with rfl | hq
        · exact Nat.le_refl _
        · exact Nat.le_trans hle (h q hq)⟩
    · exact ⟨p, List.mem_cons_of_mem _ hp, fun q hq => by
        rcases List.mem_cons.1 hq with rfl | hq
        · exact hle
        · exact h q hq⟩

section
variable {P : Program} {C : Cfg} {κ κ' κ0 : Kn} {B B' N : Nat} {s s' : St} {w w' w0 : World} {e : Env} {a : Act} {β : Nat → Option Nat} {δ : List Nat} {cl : CallFn} {F : Fence}

theorem FrameR.same {e' : Env} (h : FrameR κ B w N e a β δ) (hs : Same e e') : FrameR κ B w N e' a β δ :=
  ⟨h.size, fun i => by rw [← hs i]; exact h.ent i, fun i g d off hi => by rw [← hs d]; exact h.ptr i g d off (by rw [hs i]; exact hi), h.priv, h.inj, h.defers, h.dpriv, h.dnodup⟩

theorem OkX.same {e' : Env} (h : OkX C κ0 w0 B N e s a w) (hs : Same e e') : OkX C κ0 w0 B N e' s a w := by
  obtain ⟨κ, β, δ, h⟩ := h
  exact ⟨κ, β, δ, h.mv, h.inv, h.fr.same hs⟩

theorem any_sim (hT : ∀ t, TyOK P C t) (hF : GF F) (hcl : CallsOK P C cl) (hB : B ≤ w0.heap.size) (hG : GlobOK C κ0) {ops : Array Oper} {f : FuncId} {r : Bool} {md : Region.Mode} {rk : List Nat} {Q : Exit → Act → World → Prop} {k : Env → St → Res} (hk : Resp k) {v : Slot} {s1 : St}
    (hQ : ∀ e s a w, OkX C κ0 w0 B N e s a w → k e s = some (.ret v, s1) → Q .normal a w) :
    ∀ (fuel : Nat) (listed : Array Bool) (L : List (Nat × (Oper × Option Nat))) (e : Env) (s : St) (a : Act) (w : World),
      L.length ≤ fuel → (∀ i, listed.getD i true = false ↔ ∃ p ∈ L, p.1 = i) → L.Pairwise (PairR C r f ops.toList) → (∀ p ∈ L, ops[p.1]? = some p.2.1) → (∀ p ∈ L, ∀ d, p.2.1.dst = some d → d < N) →
      (∀ p ∈ L, ∀ e ∈ p.2.1.after.toList, edgeOK rk ops.size p.1 e = true) → listed.size = ops.size → (∀ i o ed, ops[i]? = some o → ed ∈ o.after.toList → bindsAll ed = true → listed.getD ed.on true = false → listed.getD i true = false) → OkX C κ0 w0 B N e s a w → runK C cl r f ops.toList L e s k = some (.ret v, s1) → wpAnyIn F 0 P md ops Q fuel listed a w := by
  intro fuel
  induction fuel with
  | zero =>
    intro listed L e s a w hlen hL _ _ _ _ _ _ hok hr
    have : L = [] := List.length_eq_zero_iff.1 (by omega)
    subst this
    refine ⟨?_, hQ _ _ _ _ hok hr⟩
    rw [List.eq_nil_iff_forall_not_mem]
    intro i hi
    obtain ⟨p, hp, _⟩ := (hL i).1 (mem_ready.1 hi).1
    simp at hp
  | succ fuel ih =>
    intro listed L e s a w hlen hL hpw hops hd haft hsz hup hok hr
    refine ⟨fun hnil => ?_, fun i hi => ?_⟩
    · cases L with
      | nil => exact hQ _ _ _ _ hok hr
      | cons p0 L =>
        exfalso
        obtain ⟨p, hpL, hmin⟩ := least (fun q : Nat × (Oper × Option Nat) => rkM rk md q.1) p0 L
        have hp1 : listed.getD p.1 true = false := (hL p.1).2 ⟨p, hpL, rfl⟩
        have : p.1 ∈ Region.ready md ops listed := by
          refine mem_ready.2 ⟨hp1, p.2.1, hops p hpL, fun ed hed hbd => ?_⟩
          obtain ⟨hes, hlt⟩ := edgeOK_spec (haft p hpL ed (Array.mem_toList_iff.2 hed)) hbd
          have hne : listed.getD ed.on true ≠ false := fun h => by
            obtain ⟨q, hq, hqe⟩ := (hL ed.on).1 h
            have := hmin q hq
            simp only [hqe] at this
            omega
          have hes' : ed.on < listed.size := by omega
          have e1 : listed.getD ed.on true = listed[ed.on] := by simp [Array.getD, hes']
          have e2 : listed.getD ed.on false = listed[ed.on] := by simp [Array.getD, hes']
          rw [e2, ← e1]
          simpa using hne
        rw [hnil] at this
        cases this
    · obtain ⟨hi1, o, ho, hdep⟩ := mem_ready.1 hi
      obtain ⟨p, hpL, hpi⟩ := (hL i).1 hi1
      subst hpi
      have hop := hops p hpL
      rw [ho] at hop
      cases hop
      obtain ⟨A, D, rfl⟩ := List.append_of_mem hpL
      have his : p.1 < listed.size := by
        rcases Nat.lt_or_ge p.1 listed.size with h | h
        · exact h
        · rw [Array.getD_eq_getD_getElem?, Array.getElem?_eq_none h] at hi1; cases hi1
      have hpw2 := hpw
      rw [List.pairwise_append] at hpw2
      obtain ⟨pA, pD, pAD⟩ := hpw2
      have hcomm : ∀ y ∈ A, comm C r f ops.toList y.2 p.2 = true := fun y hy => by
        rcases (pAD y hy p List.mem_cons_self).2 with hdp | hc
        · exfalso
          have hbind : ∀ ed : Edge, bindsAll ed = true → Region.binds md ed = true := fun ed h2 => by
            unfold Region.binds
            unfold bindsAll at h2
            cases hg : ed.ground <;> rw [hg] at h2 <;> first | rfl | cases h2
          have up : ∀ i j, Dep ops.toList i j → listed.getD j true = false → listed.getD i true = false := by
            intro i j hij
            induction hij with
            | one h he hb => exact fun hj => hup _ _ _ (by simpa using h) he hb hj
            | more h he hb _ ih => exact fun hj => hup _ _ _ (by simpa using h) he hb (ih hj)
          have hf := (hL y.1).2 ⟨y, List.mem_append_left _ hy, rfl⟩
          -- the first edge on the way
          obtain ⟨ed, hed, hb, hz⟩ : ∃ ed ∈ p.2.1.after.toList, bindsAll ed = true ∧ listed.getD ed.on true = false := by
            have ho' : ops.toList[p.1]? = some p.2.1 := by simpa using ho
            obtain ⟨o2, ed, h, he, hb, hj⟩ := hdp.first
            rw [ho'] at h
            cases h
            refine ⟨ed, he, hb, ?_⟩
            rcases hj with hj | hj
            · rw [hj]; exact hf
            · exact up _ _ hj hf
          have hl := hdep ed (Array.mem_toList_iff.1 hed) (hbind ed hb)
          have hys : ed.on < listed.size := by
            rcases Nat.lt_or_ge ed.on listed.size with h | h
            · exact h
            · rw [Array.getD_eq_getD_getElem?, Array.getElem?_eq_none h] at hz; cases hz
          have e1 : listed.getD ed.on true = listed[ed.on] := by simp [Array.getD, hys]
          have e2 : listed.getD ed.on false = listed[ed.on] := by simp [Array.getD, hys]
          rw [e1] at hz
          rw [e2, hz] at hl
          cases hl
        · exact hc
      rw [front hk hcomm] at hr
      unfold wpOpIn
      rw [ho]
      have hmem : ∀ q, q ∈ A ++ D → q ∈ A ++ p :: D := fun q hq => (List.mem_append.1 hq).elim (fun h => List.mem_append_left _ h) (fun h => List.mem_append_right _ (List.mem_cons_of_mem _ h))
      refine op_sim (R := (.ret v, s1)) (rts := [p.2.2]) (os := []) hT hF hcl hB hG ⟨fun v' s' e' a' w' κ' β' δ' chain h => by cases h⟩ (hd p hpL) hok (fun e' s' a' w' hok' hr' => ?_) hr
      refine ih (listed.setIfInBounds p.1 true) (A ++ D) e' s' a' w' (by simp at hlen ⊢; omega) (fun j => ?_) ?_ (fun q hq => hops q (hmem q hq)) (fun q hq => hd q (hmem q hq)) (fun q hq => haft q (hmem q hq)) (by simpa using hsz) (fun i o' ed hi' hed hb hz => ?_) hok' hr'
      · by_cases hj : j = p.1
        · subst hj
          constructor
          · intro h; simp [Array.getD, his] at h
          · rintro ⟨q, hq, hqi⟩
            exfalso
            rcases List.mem_append.1 hq with hq | hq
            · have := (pAD q hq p List.mem_cons_self).1; omega
            · have := ((List.pairwise_cons.1 pD).1 q hq).1; omega
        · have e1 : (listed.setIfInBounds p.1 true).getD j true = listed.getD j true := by
            simp only [Array.getD_eq_getD_getElem?, Array.getElem?_setIfInBounds_ne (Ne.symm hj)]
          rw [e1, hL j]
          constructor
          · rintro ⟨q, hq, hqi⟩
            refine ⟨q, ?_, hqi⟩
            rcases List.mem_append.1 hq with hq | hq
            · exact List.mem_append_left _ hq
            · rcases List.mem_cons.1 hq with rfl | hq
              · exact absurd hqi.symm hj
              · exact List.mem_append_right _ hq
          · rintro ⟨q, hq, hqi⟩
            exact ⟨q, hmem q hq, hqi⟩
      · exact List.pairwise_append.2 ⟨pA, (List.pairwise_cons.1 pD).2, fun y hy z hz => pAD y hy z (List.mem_cons_of_mem _ hz)⟩
      · have hne : ed.on ≠ p.1 := fun e => by rw [e] at hz; simp [Array.getD, his] at hz
        have hz' : listed.getD ed.on true = false := by
          simp only [Array.getD_eq_getD_getElem?, Array.getElem?_setIfInBounds_ne (Ne.symm hne)] at hz ⊢
          exact hz
        have hold := hup i o' ed hi' hed hb hz'
        by_cases hip : i = p.1
        · exfalso
          subst hip
          rw [ho] at hi'
          cases hi'
          have hbd : Region.binds md ed = true := by
            unfold Region.binds
            unfold bindsAll at hb
            cases hg : ed.ground <;> rw [hg] at hb <;> first | rfl | cases hb
          have hl := hdep ed (Array.mem_toList_iff.1 hed) hbd
          have hys : ed.on < listed.size := by
            rcases Nat.lt_or_ge ed.on listed.size with h | h
            · exact h
            · rw [Array.getD_eq_getD_getElem?, Array.getElem?_eq_none h] at hz'; cases hz'
          have e1 : listed.getD ed.on true = listed[ed.on] := by simp [Array.getD, hys]
          have e2 : listed.getD ed.on false = listed[ed.on] := by simp [Array.getD, hys]
          rw [e1] at hz'
          rw [e2, hz'] at hl
          cases hl
        · simp only [Array.getD_eq_getD_getElem?, Array.getElem?_setIfInBounds_ne (Ne.symm hip)] at hold ⊢
          exact hold

theorem draw_sim (hT : ∀ t, TyOK P C t) (hF : GF F) (hcl : CallsOK P C cl) (hB : B ≤ w0.heap.size) (hG : GlobOK C κ0) {ops : Array Oper} {f : FuncId} {id : Nat} {r : Bool} {rts : List (Option Nat)} {Q : Exit → Act → World → Prop} {R : Out × St} {k : Env → St → Res}
    {rk : List Nat} (hchk : drawOK C r f ops.toList rk (mkL 0 ops.toList rts) = true) (hd : ∀ o ∈ ops.toList, ∀ d, o.dst = some d → d < N)
    (hQ : ∀ e s a w, OkX C κ0 w0 B N e s a w → k e s = some R → Q .normal a w) (hok : OkX C κ0 w0 B N e s a w)
    (h : opsK C cl true r f ops.toList ops.toList rts e s k = some R) : (Code.region id ops true).wpIn F 0 P Q a w := by
  rw [opsK_runK 0] at h
  rcases runK_det (C := C) (cl := cl) (r := r) (f := f) (all := ops.toList) (mkL 0 ops.toList rts) e s with hn | ⟨e1, s1, hdet⟩
  · rw [hn] at h; cases h
  · rw [hdet] at h
    let k1 : Env → St → Res := fun e' s' => by
      classical
      exact if Same e1 e' ∧ s' = s1 then some (.ret .und, s1) else none
    have hk1 : Resp k1 := fun e e' s hs => by
      have : (Same e1 e ∧ s = s1) ↔ (Same e1 e' ∧ s = s1) := ⟨fun ⟨a, b⟩ => ⟨fun i => (a i).trans (hs i), b⟩, fun ⟨a, b⟩ => ⟨fun i => (a i).trans (hs i).symm, b⟩⟩
      simp only [k1]
      by_cases hc : Same e1 e ∧ s = s1
      · rw [if_pos hc, if_pos (this.1 hc)]
      · rw [if_neg hc, if_neg (fun x => hc (this.2 x))]
    have hrun : runK C cl r f ops.toList (mkL 0 ops.toList rts) e s k1 = some (.ret .und, s1) := by
      rw [hdet]
      simp only [k1]
      rw [if_pos ⟨fun _ => rfl, rfl⟩]
    obtain ⟨hpw, haft⟩ := drawGo_pairs (ancs_dep ops.toList ops.toList [] [] rfl rfl (by simp)) hchk
    have hok' : OkX C κ0 w0 B N e s a { w with drawn := w.drawn + 1 } := by
      obtain ⟨κ, β, δ, hok⟩ := hok
      exact ⟨κ, β, δ, hok.turn (Mv.drew κ w) hok.inv.drew⟩
    have hany : ∀ md, wpAnyIn F 0 P md ops Q ops.size (Array.replicate ops.size false) a { w with drawn := w.drawn + 1 } := fun md =>
      any_sim hT hF hcl hB hG hk1 (v := .und) (s1 := s1) (fun e' s' a' w' hok' hk' => by
        simp only [k1] at hk'
        split at hk'
        · rename_i hs
          refine hQ e1 s1 a' w' ?_ h
          rw [← hs.2]
          exact hok'.same fun i => (hs.1 i).symm
        · cases hk') ops.size _ (mkL 0 ops.toList rts) e s a _ (by rw [mkL_len]; simp) (fun i => by
          constructor
          · intro hi
            have hlt : i < ops.size := by
              rcases Nat.lt_or_ge i ops.size with h | h
              · exact h
              · rw [Array.getD_eq_getD_getElem?, Array.getElem?_eq_none (by simpa using h)] at hi; cases hi
            obtain ⟨p, hp, he⟩ := mkL_all (n := 0) (os := ops.toList) (rts := rts) (i := i) (by simpa using hlt)
            exact ⟨p, hp, by omega⟩
          · rintro ⟨p, hp, rfl⟩
            obtain ⟨_, h2⟩ := mkL_ge hp
            have hlt : p.1 < ops.size := by
              have := (List.getElem?_eq_some_iff.1 h2).1
              simpa using this
            simp [Array.getD, hlt]) hpw (fun p hp => by
          obtain ⟨_, h2⟩ := mkL_ge hp
          simpa using h2) (fun p hp => hd _ (by
          obtain ⟨_, h2⟩ := mkL_ge hp
          exact List.mem_of_getElem? h2)) (rk := rk) (by simpa using haft) (by simp) (fun i o' ed hi' _ _ _ => by
          have hlt : i < ops.size := (Array.getElem?_eq_some_iff.1 hi').1
          simp [Array.getD, hlt]) hok' hrun
    refine wpIn_region_draw fun t => ?_
    unfold Region.schedule
    split
    · exact wpAnyIn_sound _ _ _ _ _ (hany .any)
    · exact wpAnyIn_sound _ _ _ _ _ (hany _)

end
end Go.Am
