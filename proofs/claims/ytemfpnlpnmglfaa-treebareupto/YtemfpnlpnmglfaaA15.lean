/- A region whose operations are carried out in a given order. -/
import Derived.Test.YtemfpnlpnmglfaaA14
set_option linter.unusedVariables false
set_option linter.unusedSimpArgs false
namespace Go.Am
open Go Go.RowKit

section
variable {P : Program} {C : Cfg} {κ κ' κ0 : Kn} {B B' N : Nat} {s s' : St} {w w' w0 : World} {e : Env} {a : Act} {β : Nat → Option Nat} {δ : List Nat} {cl : CallFn} {F : Fence}

theorem back_noPan {r : Res} {k : Slot → St → Res} {R : Out × St} (h : back (noPan r) k = some R) : back r k = some R := by
  unfold noPan at h
  split at h
  · exact h
  · cases h

theorem does_wp (hF : GF F) {o : Oper} {Q : Exit → Act → World → Prop} {R : Out × St} {k : Ent → Env → St → Res} {K : Act → World → Prop} (hnd : ∀ c, o.op ≠ .defer c)
    (hK : ∀ x e' s' a' w', OkX C κ0 w0 B N (put o.dst x e') s' a' w' → k x e' s' = some R → K a' w') {m : Sem Next} (hm : execOp a.eval o = m) (h : Does P C κ0 w0 B N o.dst a w m k R) : o.wpIn F 0 P a w K Q := by
  refine ⟨leads_any hF, ?_⟩
  rw [Oper.semAt_eq _ _ _ hnd, hm]
  obtain ⟨v, w', x, e', s', hrun, hk, hok⟩ := h
  rcases hrun with hrun | ⟨hrun, rfl⟩
  · rw [hrun]; exact hK x e' s' _ _ hok hk
  · rw [hrun]; exact hK x e' s' _ _ hok hk

/-- one operation that turns the state, is a call, or panics -/
theorem eff_sim (hT : ∀ t, TyOK P C t) (hF : GF F) (hcl : CallsOK P C cl) (hB : B ≤ w0.heap.size) (hG : GlobOK C κ0) (h : Ok C κ0 w0 B N e s a w κ β δ) {f : FuncId} {o : Oper} (hd : ∀ d, o.dst = some d → d < N) {dr : Bool} {rt : Root}
    {Q : Exit → Act → World → Prop} {R : Out × St} (hP : Post P C κ0 w0 B N Q R) {k : Ent → Env → St → Res} {K : Act → World → Prop}
    (hK : ∀ x e' s' a' w', OkX C κ0 w0 B N (put o.dst x e') s' a' w' → k x e' s' = some R → K a' w')
    (hk : effK C cl dr f o rt true e s k = some R) : o.wpIn F 0 P a w K Q := by
  have hGκ := h.glob hG
  have hBw : B ≤ w.heap.size := Nat.le_trans hB h.mv.size
  have hev := fun x => opnd_SR h.fr hGκ x
  unfold effK at hk
  split at hk
  · rename_i g as ts ho
    have hk' : back (cal cl true (tgtV (opnd C e g) (as.toList.map (opnd C e))) s) (fun v s => k (.s v) e s) = some R := by
      cases dr with
      | false => exact hk
      | true => exact back_noPan hk
    exact call_sim hF hcl hB hG h hd ho hP (fun v s' a' w' h1 h2 => hK (.s v) e s' a' w' h1 h2) hk'
  · simp only [cond_true] at hk
    split at hk
    · rename_i t ho
      cases hg : (C.ti t).isGood with
      | false => rw [hg] at hk; cases hk
      | true =>
        rw [hg] at hk
        simp only [cond_true] at hk
        have hb : (C.ti t).k ≠ .bad := fun hk => by simp [TI.isGood, hk] at hg
        obtain ⟨i, z, h1, h2, h3, h4, h5, h6, h7, _⟩ := (hT t).info hb
        refine does_wp hF (by rw [ho]; simp) hK (m := do pure (.value (← Instr.alloc t true (.tuple #[])))) (by unfold execOp; rw [ho]) (new_sim h hB hd (SRs.vals (h6 κ)) h7 (t := t) ?_ hk)
        simp [Instr.alloc, zeroValue, typeInfo, h1, h4, newVar, newRow]
    · rename_i t x ho
      cases hc : boxCells (C.ti t) (opnd C e x) with
      | none => rw [hc] at hk; cases hk
      | some cs =>
        rw [hc] at hk
        simp only [bindL] at hk
        obtain ⟨hb, hsz, hcs, hones⟩ := box_sim hT (hev x) hc
        refine does_wp hF (by rw [ho]; simp) hK (m := do pure (.value (← Instr.box t (a.eval x)))) (by unfold execOp; rw [ho]) (new_sim h hB hd hcs hones (t := t) ?_ hk)
        simp [Instr.box, newVar, newRow]
    · rename_i t x y ho
      cases hc : boxCells (C.ti t) (opnd C e y) with
      | none => rw [hc] at hk; cases hk
      | some cs =>
        rw [hc] at hk
        simp only [bindL] at hk
        exact does_wp hF (by rw [ho]; simp) hK (m := do Instr.storeAt t (a.eval x) (a.eval y); pure .skip) (by unfold execOp; rw [ho]) (store_sim hT hGκ h hd hc hk)
    · rename_i t l c ho
      split at hk
      · rename_i et hkt
        cases hm : makeS et (C.ti et) s (opnd C e l) (opnd C e c) with
        | none => rw [hm] at hk; cases hk
        | some p =>
          obtain ⟨sl, s2⟩ := p
          rw [hm] at hk
          obtain ⟨z, κ', w', hr, hM, hI, hS⟩ := makeS_sim hT h.inv hBw hkt (hev l) (hev c) hm
          exact does_wp hF (by rw [ho]; simp) hK (m := do pure (.value (← Instr.makeSlice t (a.eval l) (a.eval c)))) (by unfold execOp; rw [ho]) (h.value hd hr hM hI hS hk)
      · cases hk
    · rename_i x ho
      cases dr with
      | true => cases hk
      | false =>
        simp only [cond_false] at hk
        have hx := hev x
        unfold panK at hk
        split at hk
        · rename_i t v hxv
          cases hk
          rw [hxv] at hx
          have hx' := hx
          simp only [SR, VR] at hx
          obtain ⟨u, hu, hval⟩ := hx
          refine ⟨leads_any hF, ?_⟩
          rw [Oper.semAt_eq _ _ _ (by rw [ho]; simp)]
          unfold execOp
          rw [ho]
          simp only [hval, Instr.panic, Sem.run_bind, run_goPanic, Result.andThen]
          exact hP.pan _ _ e a w κ β δ _ rfl h ⟨_, rfl, by rw [hval] at hx'; exact hx'⟩
        · cases hk
    · rename_i as ts ho
      split at hk
      · rename_i x y t u has hts
        split at hk
        · rename_i et hkt htu
          cases hm : appendS et (C.ti et) s (opnd C e x) (opnd C e y) with
          | none => rw [hm] at hk; cases hk
          | some p =>
            obtain ⟨sl, s2⟩ := p
            rw [hm] at hk
            have htu' := Nat.eq_of_beq_eq_true htu
            subst htu'
            obtain ⟨z, κ', w', hr, hM, hI, hS⟩ := append_sim hT h.inv hBw (ty := o.type) hkt (hev x) (hev y) hm
            have e1 : as = #[x, y] := Array.toList_inj.1 has
            have e2 : ts = #[t, t] := Array.toList_inj.1 hts
            subst e1; subst e2
            refine does_wp hF (by rw [ho]; simp) hK (m := do let d ← resolve a.eval { callee := .builtin .append, args := #[x, y], argTypes := #[t, t] } o.type; invoke d.target d.args) (by unfold execOp; rw [ho]) ?_
            refine ⟨z, w', .s sl, e, s2, .inl ?_, hk, h.step hM hI o.dst hd (x := .s sl) (v := z) hS⟩
            simp [resolve, invoke, builtin, hr]
        · cases hk
      · cases hk
    · cases hk

theorem opsK_cons {all : List Oper} {o : Oper} {os : List Oper} {rts : List (Option Nat)} {dr r : Bool} {f : FuncId} {k : Env → St → Res} : opsK C cl dr r f all (o :: os) rts e s k = bindB (wants all e o.guard) fun w =>
      bif isPure C o.op then pureK C e w o.op (fun v => opsK C cl dr r f all os rts.tail (put o.dst v e) s k)
      else bif isRead o.op then bind1 (gd w (readS C r (rootOf dr rts) e s o.op)) (fun v => opsK C cl dr r f all os rts.tail (put o.dst (.s v) e) s k)
      else effK C cl dr f o (rootOf dr rts) w e s (fun v e s => opsK C cl dr r f all os rts.tail (put o.dst v e) s k) := rfl

/-- one operation of a region -/
theorem op_sim (hT : ∀ t, TyOK P C t) (hF : GF F) (hcl : CallsOK P C cl) (hB : B ≤ w0.heap.size) (hG : GlobOK C κ0) {ops : Array Oper} {f : FuncId} {dr r : Bool} {Q : Exit → Act → World → Prop} {R : Out × St} (hP : Post P C κ0 w0 B N Q R) {k : Env → St → Res} {K : Act → World → Prop}
    {o : Oper} {os : List Oper} {rts : List (Option Nat)} (hd : ∀ d, o.dst = some d → d < N) (hok : OkX C κ0 w0 B N e s a w)
    (hK : ∀ e' s' a' w', OkX C κ0 w0 B N e' s' a' w' → opsK C cl dr r f ops.toList os rts.tail e' s' k = some R → K a' w')
    (hk : opsK C cl dr r f ops.toList (o :: os) rts e s k = some R) :
    if Region.wanted o (yielded ops a.tmps) then o.wpIn F 0 P a w K Q else (∀ f, o.about P w a.eval = some f → F.fn f) ∧ K (a.put o.dst undef) w := by
  obtain ⟨κ, β, δ, h⟩ := hok
  have hGκ := h.glob hG
  rw [opsK_cons] at hk
  cases hw : wants ops.toList e o.guard with
  | none => rw [hw] at hk; cases hk
  | some t =>
    rw [hw] at hk
    simp only [bindB] at hk
    rw [wants_sim h.fr rfl hw]
    cases t with
    | false =>
      simp only [Bool.false_eq_true, if_false]
      refine ⟨leads_any hF, ?_⟩
      have no : PutR κ e β (.s .no) undef := by simp only [PutR, SR]
      cases hp : isPure C o.op with
      | true =>
        rw [hp] at hk
        simp only [cond_true] at hk
        obtain ⟨x, hx, hk2⟩ := pure_skip h.fr hk
        exact hK _ _ _ _ (h.step (.refl _ _) h.inv o.dst hd hx) hk2
      | false =>
        rw [hp] at hk
        simp only [cond_false] at hk
        cases hrd : isRead o.op with
        | true =>
          rw [hrd] at hk
          simp only [cond_true, gd, cond_false, bind1] at hk
          exact hK _ _ _ _ (h.step (.refl _ _) h.inv o.dst hd no) hk
        | false =>
          rw [hrd] at hk
          simp only [cond_false] at hk
          unfold effK at hk
          split at hk
          · rename_i g as ts _
            have hk' : back (cal cl false (tgtV (opnd C e g) (as.toList.map (opnd C e))) s) (fun v s => opsK C cl dr r f ops.toList os rts.tail (put o.dst (.s v) e) s k) = some R := by
              cases dr with
              | false => exact hk
              | true => exact back_noPan hk
            simp only [cal, cond_false, back] at hk'
            exact hK _ _ _ _ (h.step (.refl _ _) h.inv o.dst hd no) hk'
          · simp only [cond_false] at hk
            exact hK _ _ _ _ (h.step (.refl _ _) h.inv o.dst hd no) hk
    | true =>
      simp only [if_true]
      cases hp : isPure C o.op with
      | true =>
        rw [hp] at hk
        simp only [cond_true] at hk
        obtain ⟨v, κ', w', x, hrun, hM, hI, hx, hk2⟩ := pure_sim hT hGκ h.fr h.inv o hp hk
        refine ⟨leads_any hF, ?_⟩
        rw [Oper.semAt_eq _ _ _ (by intro c hc; rw [hc] at hp; cases hp), hrun]
        exact hK _ _ _ _ (h.step hM hI o.dst hd hx) hk2
      | false =>
        rw [hp] at hk
        simp only [cond_false] at hk
        cases hrd : isRead o.op with
        | true =>
          rw [hrd] at hk
          simp only [cond_true, gd] at hk
          cases hs : readS C r (rootOf dr rts) e s o.op with
          | none => rw [hs] at hk; cases hk
          | some sl =>
            rw [hs] at hk
            simp only [bind1] at hk
            unfold readS at hs
            split at hs
            · rename_i t x ho
              obtain ⟨z, hrun, hz⟩ := load_sim hT hGκ h.fr h.inv hs
              refine ⟨leads_any hF, ?_⟩
              rw [Oper.semAt_eq _ _ _ (by rw [ho]; simp)]
              unfold execOp
              rw [ho]
              simp only [Sem.run_bind, hrun, Result.andThen_ok, Sem.run_pure]
              exact hK _ _ _ _ (h.step (.refl _ _) h.inv o.dst hd (x := .s sl) (v := z) hz) hk
            · cases hs
        | false =>
          rw [hrd] at hk
          simp only [cond_false] at hk
          exact eff_sim hT hF hcl hB hG h hd hP (fun x e' s' a' w' h1 h2 => hK _ _ _ _ h1 h2) hk

/-- all of them, in a given order -/
theorem ops_sim (hT : ∀ t, TyOK P C t) (hF : GF F) (hcl : CallsOK P C cl) (hB : B ≤ w0.heap.size) (hG : GlobOK C κ0) {ops : Array Oper} {f : FuncId} {dr r : Bool} {Q : Exit → Act → World → Prop} {R : Out × St} (hP : Post P C κ0 w0 B N Q R) {k : Env → St → Res}
    (hQ : ∀ e s a w, OkX C κ0 w0 B N e s a w → k e s = some R → Q .normal a w) :
    ∀ (L : List (Nat × Oper)) (rts : List (Option Nat)) (e : Env) (s : St) (a : Act) (w : World), (∀ p ∈ L, ops[p.1]? = some p.2) → (∀ p ∈ L, ∀ d, p.2.dst = some d → d < N) → OkX C κ0 w0 B N e s a w →
      opsK C cl dr r f ops.toList (L.map (·.2)) rts e s k = some R → wpOpsIn F 0 P ops Q (L.map (·.1)) a w
  | [], _, _, _, _, _, _, _, hok, hk => hQ _ _ _ _ hok hk
  | (i, o) :: L, rts, e, s, a, w, hL, hd, hok, hk => by
    have ho := hL (i, o) List.mem_cons_self
    simp only [List.map_cons, wpOpsIn]
    simp only at ho
    rw [ho]
    exact op_sim hT hF hcl hB hG hP (hd (i, o) List.mem_cons_self) hok (fun e' s' a' w' h1 h2 => ops_sim hT hF hcl hB hG hP hQ L rts.tail e' s' a' w' (fun p hp => hL p (List.mem_cons_of_mem _ hp)) (fun p hp => hd p (List.mem_cons_of_mem _ hp)) h1 h2) hk

end
end Go.Am
