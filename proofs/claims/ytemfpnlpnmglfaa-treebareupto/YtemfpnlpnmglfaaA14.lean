/- The operations of a region, one after the other. -/
import Derived.Test.YtemfpnlpnmglfaaA13
import Derived.RangeFuncCalls
set_option linter.unusedVariables false
set_option linter.unusedSimpArgs false
namespace Go.Am
open Go Go.RowKit

def GF (F : Fence) : Prop := F = Fence.wide ∨ ∃ l, F = Fence.wide.inRound l

theorem GF.fn {F : Fence} (h : GF F) (f : FuncId) : F.fn f := by
  rcases h with rfl | ⟨l, rfl⟩ <;> trivial
theorem GF.depth {F : Fence} (h : GF F) : F.depth.isSome = true → 1 ≤ 0 := by
  rcases h with rfl | ⟨l, rfl⟩ <;> intro h <;> cases h
theorem GF.calls {F : Fence} (h : GF F) {n : Nat} {P : Program} {f : FuncId} {args : Array Value} {w : World} {R : Ending → World → Prop} (k : CallsIn Fence.wide n P f args w R) : CallsIn F n P f args w R := by
  rcases h with rfl | ⟨l, rfl⟩ <;> exact k
theorem GF.round {F : Fence} (h : GF F) {n : Nat} {P : Program} {l : Nat} {f : FuncId} {t : Array Value} {x y : Code} {w : World} {R : Ending → World → Prop} (k : RoundIn Fence.wide n P l f t x y w R) : RoundIn F n P l f t x y w R := by
  rcases h with rfl | ⟨l, rfl⟩ <;> exact k

def OutR (κ : Kn) : Out → Ending → Prop
  | .ret sl, .returned v => SR κ sl v
  | .pan a, .panicked chain => ∃ u, chain = [{ v := u, recovered := false }] ∧ VR κ a u
  | _, _ => False

/-- what a call leaves -/
def CPost (C : Cfg) (κ : Kn) (B : Nat) (w : World) (o : Out) (s' : St) (e : Ending) (w' : World) : Prop := ∃ κ', Mv κ κ' w w' ∧ Inv C κ' B s' w' ∧ OutR κ' o e

/-- a call's contract, whether the callee is the program's own code or is known to the model itself -/
def Called (P : Program) (f : FuncId) (args : Array Value) (w : World) (post : Ending → World → Prop) : Prop :=
  (∃ v w', (callFunc f args).run P w = .ok (.value v) w' ∧ post (.returned v) w') ∨ ((callFunc f args).run P w = .ok (.enter f args) w ∧ CallsIn Fence.wide 0 P f args w post)

structure CallsOK (P : Program) (C : Cfg) (cl : CallFn) : Prop where
  enter : ∀ f l s r, cl (.f f) l s = some r → (C.ext f).isSome = false → ∀ args w, (callFunc f args).run P w = .ok (.enter f args) w
  f : ∀ f l s o s', cl (.f f) l s = some (o, s') → ∀ κ B w vs, Inv C κ B s w → GlobOK C κ → B ≤ w.heap.size → VRl κ l vs → Called P f vs.toArray w (CPost C κ B w o s')
  y : ∀ loc l s o s', cl (.y loc) l s = some (o, s') → ∀ κ B w vs b, Inv C κ B s w → GlobOK C κ → B ≤ w.heap.size → VRl κ l vs → κ.loc loc = some b →
    ∃ fn t x y, (Instr.yield b vs.toArray).run P w = .ok (.round b fn t x y) w ∧ RoundIn Fence.wide 0 P b fn t x y w (CPost C κ B w o s')

section
variable {P : Program} {C : Cfg} {κ κ' κ0 : Kn} {B B' N : Nat} {s s' : St} {w w' w0 : World} {e : Env} {a : Act} {β : Nat → Option Nat} {δ : List Nat} {cl : CallFn} {F : Fence}

/-! ### guards -/

theorem wants_sim (hf : FrameR κ B w N e a β δ) {ops : Array Oper} {g : Option (Nat × Bool)} {o : Oper} (ho : o.guard = g) {t : Bool} (h : wants ops.toList e g = some t) : Region.wanted o (yielded ops a.tmps) = t := by
  unfold Region.wanted
  rw [ho]
  cases g with
  | none => simp only [wants] at h; cases h; rfl
  | some p =>
    obtain ⟨j, want⟩ := p
    simp only [wants] at h
    split at h
    · rename_i d hd
      split at hd
      · rename_i oj hoj
        have hyj : yielded ops a.tmps j = (match a.tmps[d]? with | some (.bool b) => some b | _ => none) := by
          unfold yielded
          have : ops[j]? = some oj := by simpa using hoj
          simp only [this, Option.bind_some, hd]
          rcases a.tmps[d]? with _ | x
          · rfl
          · cases x <;> rfl
        simp only [hyj]
        have hsr := Ent.slot_SR (hf.ent d)
        unfold Slot.isB at h
        split at h
        · rename_i b hb
          cases h
          rw [hb] at hsr
          simp only [SR, VR] at hsr
          have : a.tmps[d]? = some (.bool b) := by
            rw [Array.getD_eq_getD_getElem?] at hsr
            cases hx : a.tmps[d]? with
            | none => rw [hx] at hsr; cases hsr
            | some x => rw [hx] at hsr; simp at hsr; rw [hsr]
          rw [this]
          cases b <;> cases want <;> rfl
        · rename_i hb
          cases h
          rw [hb] at hsr
          simp only [SR] at hsr
          have : ∀ b, a.tmps[d]? ≠ some (.bool b) := fun b hx => by
            rw [Array.getD_eq_getD_getElem?, hx] at hsr
            cases hsr
          cases hx : a.tmps[d]? with
          | none => rfl
          | some x =>
            cases x <;> first | rfl | exact absurd hx (this _)
        · cases h
      · cases hd
    · cases h

/-! ### an operation that is not carried out -/

theorem pure_skip (hf : FrameR κ B w N e a β δ) {op : Op} {k : Ent → Res} {R : Out × St} (h : pureK C e false op k = some R) : ∃ x, PutR κ e β x undef ∧ k x = some R := by
  have no : PutR κ e β (.s .no) undef := by simp only [PutR, SR]
  have dflt : bind1 (gd false (pureS C e op)) (fun v => k (.s v)) = some R → ∃ x, PutR κ e β x undef ∧ k x = some R := fun h => ⟨.s .no, no, h⟩
  cases op <;> try exact dflt h
  case nilCheck x =>
    simp only [pureK] at h
    split at h
    · rename_i w' d o he
      have hp := ent_ptr hf he
      unfold chkP at h
      simp only [Bool.not_false, Bool.or_true, cond_true, Bool.and_false] at h
      exact ⟨.ptr false d o, ⟨fun h => (by cases h), hp.2⟩, h⟩
    · exact ⟨.s .no, no, h⟩
    · cases h
  case fieldAddr t x f =>
    simp only [pureK] at h
    split at h
    · rename_i off ft hft
      cases h0 : Nat.beq (C.ti ft).size 0 with
      | true => rw [h0] at h; cases h
      | false =>
        rw [h0] at h
        simp only [cond_false] at h
        unfold faK at h
        split at h
        · rename_i cs he
          obtain ⟨d, rfl, hd⟩ := ent_var he
          simp only [Operand.tmp?] at h
          exact ⟨.ptr false d off, ⟨fun h => (by cases h), by rw [hd]; simp⟩, h⟩
        · rename_i w' d o he
          have hp := ent_ptr hf he
          unfold chkP at h
          simp only [Bool.not_false, Bool.or_true, cond_true, Bool.and_false] at h
          exact ⟨.ptr false d (o + off), ⟨fun h => (by cases h), hp.2⟩, h⟩
        · exact ⟨.s .no, no, h⟩
        · cases h
    · cases h

/-! ### calls -/

theorem leads_any (hF : GF F) {o : Oper} : ∀ f, o.about P w a.eval = some f → F.fn f := fun f _ => hF.fn f

/-- what the walk goes on with -/
structure Post (P : Program) (C : Cfg) (κ0 : Kn) (w0 : World) (B N : Nat) (Q : Exit → Act → World → Prop) (R : Out × St) : Prop where
  pan : ∀ v s e a w κ β δ chain, R = (.pan v, s) → Ok C κ0 w0 B N e s a w κ β δ → (∃ u, chain = [{ v := u, recovered := false }] ∧ VR κ v u) → Q (.panic chain) a w

theorem Ok.glob (h : Ok C κ0 w0 B N e s a w κ β δ) (hG : GlobOK C κ0) : GlobOK C κ := hG.mono h.mv.le

theorem back_some {r : Res} {k : Slot → St → Res} {R : Out × St} (h : back r k = some R) : (∃ v s, r = some (.ret v, s) ∧ k v s = some R) ∨ ∃ v s, r = some (.pan v, s) ∧ R = (.pan v, s) := by
  unfold back at h
  split at h
  · exact .inl ⟨_, _, rfl, h⟩
  · cases h; exact .inr ⟨_, _, rfl, rfl⟩
  · cases h

theorem srs_args (hf : FrameR κ B w N e a β δ) (hG : GlobOK C κ) (as : Array Operand) : SRs κ (as.toList.map (opnd C e)) (as.map a.eval).toList := by
  have := srs_map (C := C) (fun x => opnd_SR hf hG x) as.toList
  simpa using this

theorem call_sim (hF : GF F) (hcl : CallsOK P C cl) (hB : B ≤ w0.heap.size) (hG : GlobOK C κ0) (h : Ok C κ0 w0 B N e s a w κ β δ) {o : Oper} (hd : ∀ d, o.dst = some d → d < N) {g : Operand} {as : Array Operand} {ts : Array TypeId} (ho : o.op = .call { callee := .value g, args := as, argTypes := ts })
    {Q : Exit → Act → World → Prop} {R : Out × St} (hP : Post P C κ0 w0 B N Q R) {k : Slot → St → Res} {K : Act → World → Prop}
    (hK : ∀ v s' a' w', OkX C κ0 w0 B N (put o.dst (.s v) e) s' a' w' → k v s' = some R → K a' w')
    (hk : back (cal cl true (tgtV (opnd C e g) (as.toList.map (opnd C e))) s) k = some R) : o.wpIn F 0 P a w K Q := by
  have hGκ := h.glob hG
  have hBw : B ≤ w.heap.size := Nat.le_trans hB h.mv.size
  have hargs := srs_args h.fr hGκ as
  have hg := opnd_SR h.fr hGκ g
  refine ⟨leads_any hF, ?_⟩
  rw [Oper.semAt_eq _ _ _ (by rw [ho]; simp)]
  unfold tgtV at hk
  cases hl : avs (as.toList.map (opnd C e)) with
  | none => rw [hl] at hk; cases hk
  | some l =>
    rw [hl] at hk
    simp only at hk
    have hvl := avs_sim hargs hl
    -- what the walk does when the call is back
    have fin : ∀ {r : Out × St} {en : Ending} {w' : World}, (∃ v s, r = (.ret v, s) ∧ k v s = some R) ∨ (∃ v s, r = (.pan v, s) ∧ R = (.pan v, s)) → CPost C κ B w r.1 r.2 en w' → (match en with | .returned v => K (a.put o.dst v) w' | .panicked chain => Q (.panic chain) a w' | .outgrown => LetsOut Q) := by
      rintro r en w' hr ⟨κ', hm, hi, hout⟩
      rcases hr with ⟨v, s2, rfl, hk2⟩ | ⟨v, s2, rfl, rfl⟩
      · cases en with
        | returned u => exact hK v s2 _ _ (h.step hm hi o.dst hd (x := .s v) (v := u) hout) hk2
        | panicked c => exact hout.elim
        | outgrown => exact hout.elim
      · cases en with
        | returned u => exact hout.elim
        | panicked c => exact hP.pan v s2 e a w' κ' β δ c rfl (h.turn hm hi) hout
        | outgrown => exact hout.elim
    split at hk
    · rename_i f caps hgv
      rw [hgv] at hg
      simp only [SR, VR] at hg
      obtain ⟨cs, hcs, hgval⟩ := hg
      simp only [cal, cond_true] at hk
      have hdisj := back_some hk
      have hex : ∃ r, cl (.f f) (l ++ caps) s = some r := by
        rcases hdisj with ⟨v, s2, h1, _⟩ | ⟨v, s2, h1, _⟩ <;> exact ⟨_, h1⟩
      obtain ⟨r, hr⟩ := hex
      have hdisj' : (∃ v s, r = (.ret v, s) ∧ k v s = some R) ∨ (∃ v s, r = (.pan v, s) ∧ R = (.pan v, s)) := by
        rcases hdisj with ⟨v, s2, h1, h2⟩ | ⟨v, s2, h1, h2⟩
        · rw [hr] at h1; cases h1; exact .inl ⟨v, s2, rfl, h2⟩
        · rw [hr] at h1; cases h1; exact .inr ⟨v, s2, rfl, h2⟩
      have hv2 : VRl κ (l ++ caps) ((as.map a.eval).toList ++ cs) := VRl.append.2 ⟨_, _, rfl, hvl, hcs⟩
      have hcall := hcl.f f (l ++ caps) s r.1 r.2 hr κ B w _ h.inv hGκ hBw hv2
      have hsem : (execOp a.eval o).run P w = (callFunc f ((as.map a.eval).toList ++ cs).toArray).run P w := by
        unfold execOp
        rw [ho]
        simp only [resolve, hgval, Deferred.ofValue, Sem.run_bind, Sem.run_pure, Result.andThen_ok, invoke]
        congr 2
        apply Array.toList_inj.1
        simp
      rw [hsem]
      rcases hcall with ⟨v, w', hrun, hpost⟩ | ⟨hrun, hin⟩
      · rw [hrun]
        exact fin hdisj' hpost
      · rw [hrun]
        exact ⟨hF.depth, (hF.calls hin).mono fun en w' hp => by have := fin hdisj' hp; cases en <;> exact this⟩
    · rename_i loc hgv
      rw [hgv] at hg
      simp only [SR, VR] at hg
      obtain ⟨b, hb, hgval⟩ := hg
      simp only [cal, cond_true] at hk
      have hdisj := back_some hk
      have hex : ∃ r, cl (.y loc) l s = some r := by
        rcases hdisj with ⟨v, s2, h1, _⟩ | ⟨v, s2, h1, _⟩ <;> exact ⟨_, h1⟩
      obtain ⟨r, hr⟩ := hex
      have hdisj' : (∃ v s, r = (.ret v, s) ∧ k v s = some R) ∨ (∃ v s, r = (.pan v, s) ∧ R = (.pan v, s)) := by
        rcases hdisj with ⟨v, s2, h1, h2⟩ | ⟨v, s2, h1, h2⟩
        · rw [hr] at h1; cases h1; exact .inl ⟨v, s2, rfl, h2⟩
        · rw [hr] at h1; cases h1; exact .inr ⟨v, s2, rfl, h2⟩
      obtain ⟨fn, t, x, y, hrun, hround⟩ := hcl.y loc l s r.1 r.2 hr κ B w _ b h.inv hGκ hBw hvl hb
      have hsem : (execOp a.eval o).run P w = (Instr.yield b (as.map a.eval)).run P w := by
        unfold execOp
        rw [ho]
        simp [resolve, hgval, Deferred.ofValue, invoke]
      rw [hsem]
      rw [Array.toArray_toList] at hrun
      rw [hrun]
      exact ⟨hF.depth, (hF.round hround).mono fun en w' hp => by have := fin hdisj' hp; cases en <;> exact this⟩
    · cases hk

end
end Go.Am
