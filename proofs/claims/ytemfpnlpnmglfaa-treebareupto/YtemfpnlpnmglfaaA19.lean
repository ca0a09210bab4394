/- Code. -/
import Derived.Test.YtemfpnlpnmglfaaA18
import Derived.LoopNIn
import Derived.RangeFuncRecord
import Derived.RangeFuncIn
set_option linter.unusedVariables false
set_option linter.unusedSimpArgs false
namespace Go.Am
open Go Go.RowKit

def exitOf : AExit → Exit
  | .normal => .normal
  | .exit id => .exit id
  | .ret => .ret

section
variable {P : Program} {C : Cfg} {κ κ' κ0 : Kn} {B B' N : Nat} {s s' : St} {w w' w0 : World} {e : Env} {a : Act} {β : Nat → Option Nat} {δ : List Nat} {cl : CallFn} {F : Fence}

theorem keepE_get (ks : List Nat) (e : Env) (i : Nat) : (keepE ks e).get i = keepS (e.get i) ∨ (keepE ks e).get i = .none := by
  unfold keepE
  induction ks with
  | nil => exact .inr rfl
  | cons k ks ih =>
    rw [List.map_cons, Env.get_cons]
    by_cases h : k = i
    · subst h; rw [if_pos rfl]; exact .inl rfl
    · rw [if_neg h]; exact ih

theorem stripE_get (ks : List Nat) (e : Env) (i : Nat) : (stripE ks e).get i = stripS (e.get i) ∨ (stripE ks e).get i = .none := by
  unfold stripE
  induction ks with
  | nil => exact .inr rfl
  | cons k ks ih =>
    rw [List.map_cons, Env.get_cons]
    by_cases h : k = i
    · subst h; rw [if_pos rfl]; exact .inl rfl
    · rw [if_neg h]; exact ih

theorem OkX.keep (ks : List Nat) (h : OkX C κ0 w0 B N e s a w) : OkX C κ0 w0 B N (keepE ks e) s a w := by
  obtain ⟨κ, β, δ, h⟩ := h
  refine ⟨κ, β, δ, h.mv, h.inv, h.fr.size, fun i => ?_, fun i g d off hi => ?_, h.fr.priv, h.fr.inj, h.fr.defers, h.fr.dpriv, h.fr.dnodup⟩
  · rcases keepE_get ks e i with hg | hg
    · rw [hg]
      have := h.fr.ent i
      cases hx : e.get i <;> rw [hx] at this <;> first | exact this | trivial
    · rw [hg]; trivial
  · rcases keepE_get ks e i with hg | hg
    · rw [hg] at hi
      cases hx : e.get i <;> rw [hx] at hi <;> cases hi
    · rw [hg] at hi; cases hi

theorem condS_some {c : Slot} {x y : Res} {R : Out × St} (h : condS c x y = some R) : ∃ t, c = .val (.bool t) ∧ (if t then x else y) = some R := by
  unfold condS Slot.bool? at h
  split at h
  · rename_i t ht
    split at ht
    · cases ht
      exact ⟨t, rfl, by cases t <;> exact h⟩
    · cases ht
  · cases h

theorem Post.then {Q : Exit → Act → World → Prop} {R : Out × St} (h : Post P C κ0 w0 B N Q R) (K : Act → World → Prop) : Post P C κ0 w0 B N (Exit.then K Q) R := ⟨h.pan⟩
theorem Post.block {Q : Exit → Act → World → Prop} {R : Out × St} (h : Post P C κ0 w0 B N Q R) (id : Nat) : Post P C κ0 w0 B N (Exit.inBlock id Q) R := ⟨h.pan⟩

theorem setLoop_some {loc : Nat} {st : LSt} {p : Option AExit} (h : setLoop loc st p s = some s') : ∃ st0 p0 f env ps x y, s.locs[loc]? = some (.loop st0 p0 f env ps x y) ∧ s' = { s with locs := s.locs.set loc (.loop st p f env ps x y) } := by
  unfold setLoop at h
  split at h
  · rename_i hl; cases h; exact ⟨_, _, _, _, _, _, _, hl, rfl⟩
  · cases h

/-- a mark for what rounds might put off -/
theorem Ok.deferred (h : Ok C κ0 w0 B N e s a w κ β δ) : Ok C κ0 w0 B N e s { a with defers := mark w.heap.size :: a.defers } (w.alloc (.deferred (some []))) κ β (w.heap.size :: δ) := by
  have hg := World.grownBy_alloc w (.deferred (some [])) none
  have hm := Mv.grown κ hg
  have hf := h.fr.move hm
  have hnw : ¬ Wr κ w.heap.size := fun hw => by have := (h.inv.wr_lt hw).2; omega
  have hlt : ∀ r ∈ δ, r < w.heap.size := fun r hr => (Array.getElem?_eq_some_iff.1 (h.fr.dpriv r hr).2.1).1
  refine ⟨h.mv.trans hm, h.inv.grown hg, hf.size, hf.ent, hf.ptr, hf.priv, hf.inj, by simp [hf.defers], fun r hr => ?_, List.nodup_cons.2 ⟨fun hr => ?_, hf.dnodup⟩⟩
  · rcases List.mem_cons.1 hr with rfl | hr
    · refine ⟨h.mv.size, heap_alloc_new w _, hnw, fun o => ?_, fun i hi => ?_⟩
      · cases ho : κ.im w.heap.size o with
        | none => rfl
        | some v => have := h.inv.im_lt ho; omega
      · have := (h.fr.priv i _ hi).2.1
        omega
    · exact hf.dpriv r hr
  · have := hlt _ hr
    omega

theorem grownBy_putObj (w : World) (l : Nat) (o : Go.Obj) : w.grownBy (w.putObj l o) (some l) :=
  ⟨rfl, rfl, rfl, by simp, fun k _ hne => World.putObj_heap_other (fun e => hne (by rw [e]))⟩

theorem LStR.ne_busy {st : LSt} {x : LoopState} (h : LStR st x) (hb : st ≠ .busy) : x ≠ .busy := by
  cases st with
  | busy => exact absurd rfl hb
  | ready => simp only [LStR] at h; subst h; simp
  | done => simp only [LStR] at h; subst h; simp
  | exhausted => simp only [LStR] at h; subst h; simp

theorem exec_sim (hT : ∀ t, TyOK P C t) (hcl : CallsOK P C cl) (hB : B ≤ w0.heap.size) (hG : GlobOK C κ0) {m : Nat} {g rd : Bool} {f : FuncId} (hF : GF F) (hrd : rd = false → F = Fence.wide) :
    ∀ (c : Code), okCode C f N c = true → ∀ {Q : Exit → Act → World → Prop} {R : Out × St} {k : K} {e : Env} {s : St} {a : Act} {w : World}, Post P C κ0 w0 B N Q R →
      (∀ x e s a w, OkX C κ0 w0 B N e s a w → k x e s = some R → Q (exitOf x) a w) → OkX C κ0 w0 B N e s a w → exec C cl m g rd f c e s k = some R → c.wpIn F 0 P Q a w := by
  intro c
  induction c with
  | skip => intro _ Q R k e s a w hP hQ hok h; exact wpIn_skip (hQ .normal _ _ _ _ hok h)
  | label l => intro _ Q R k e s a w hP hQ hok h; exact wpIn_label (hQ .normal _ _ _ _ hok h)
  | exit id => intro _ Q R k e s a w hP hQ hok h; exact wpIn_exit (hQ (.exit id) _ _ _ _ hok h)
  | ret => intro _ Q R k e s a w hP hQ hok h; exact wpIn_ret (hQ .ret _ _ _ _ hok h)
  | goto l => intro hc; cases hc
  | scope b ih => intro hc; cases hc
  | region id ops draw =>
    intro hc Q R k e s a w hP hQ hok h
    simp only [okCode, Bool.and_eq_true, List.all_eq_true] at hc
    obtain ⟨hd, hdr⟩ := hc
    have hd' : ∀ o ∈ ops.toList, ∀ d, o.dst = some d → d < N := fun o ho d hod => by
      have := hd o ho
      rw [hod] at this
      exact Nat.le_of_ble_eq_true this
    simp only [exec] at h
    cases draw with
    | true =>
      simp only [Bool.not_true, Bool.false_or] at hdr
      exact draw_sim hT hF hcl hB hG hdr hd' (fun e s a w h1 h2 => hQ .normal e s a w h1 h2) hok h
    | false =>
      refine wpIn_region ?_
      have hlen : ops.toList.length = ops.size := by simp
      have hpairs := fun p hp => mkL_ge (n := 0) (os := ops.toList) (rts := []) (p := p) hp
      have hL : ((mkL 0 ops.toList []).map fun p => (p.1, p.2.1)).map (·.1) = List.range ops.size := by
        rw [List.map_map, ← hlen, List.range_eq_range']
        generalize ops.toList = os
        have : ∀ n (os : List Oper) (rts : List (Option Nat)), (mkL n os rts).map ((fun x : Nat × Oper => x.1) ∘ fun p => (p.1, p.2.1)) = List.range' n os.length := by
          intro n os
          induction os generalizing n with
          | nil => intro rts; rfl
          | cons o os ih => intro rts; simp [mkL, List.range'_succ, ih]
        exact this 0 os []
      have hL2 : ((mkL 0 ops.toList []).map fun p => (p.1, p.2.1)).map (·.2) = ops.toList := by
        rw [List.map_map]
        have : ∀ n (os : List Oper) (rts : List (Option Nat)), (mkL n os rts).map ((fun x : Nat × Oper => x.2) ∘ fun p => (p.1, p.2.1)) = os := by
          intro n os
          induction os generalizing n with
          | nil => intro rts; rfl
          | cons o os ih => intro rts; simp [mkL, ih]
        exact this 0 _ []
      rw [← hL]
      refine ops_sim hT hF hcl hB hG hP (k := fun e s => k .normal e s) (fun e s a w h1 h2 => hQ .normal e s a w h1 h2) _ _ e s a w (fun p hp => ?_) (fun p hp d hd2 => ?_) hok (by rw [hL2]; exact h)
      · obtain ⟨q, hq, rfl⟩ := List.mem_map.1 hp
        simpa using (hpairs q hq).2
      · obtain ⟨q, hq, rfl⟩ := List.mem_map.1 hp
        exact hd' _ (List.mem_of_getElem? (hpairs q hq).2) d hd2
  | seq x y ihx ihy =>
    intro hc Q R k e s a w hP hQ hok h
    simp only [okCode, Bool.and_eq_true] at hc
    refine wpIn_seq (ihx hc.1 (hP.then _) (fun x e s a w hok h => ?_) hok h)
    cases x with
    | normal =>
      simp only [] at h
      unfold cutK at h
      split at h
      · unfold cutN at h
        cases g with
        | false => cases h
        | true => exact ihy hc.2 hP hQ (hok.keep _) h
      · exact ihy hc.2 hP hQ hok h
    | exit id => exact hQ (.exit id) _ _ _ _ hok h
    | ret => exact hQ .ret _ _ _ _ hok h
  | cond c x y ihx ihy =>
    intro hc Q R k e s a w hP hQ hok h
    simp only [okCode, Bool.and_eq_true] at hc
    obtain ⟨t, ht, h⟩ := condS_some h
    have hv : a.eval c = .bool t := by
      obtain ⟨κ, β, δ, ho⟩ := hok
      have := opnd_SR ho.fr (ho.glob hG) c
      rw [ht] at this
      exact this
    refine wpIn_cond hv ?_
    cases t with
    | true => exact ihx hc.1 hP hQ hok h
    | false => exact ihy hc.2 hP hQ hok h
  | block id b ih =>
    intro hc Q R k e s a w hP hQ hok h
    refine wpIn_block (ih hc (hP.block id) (fun x e s a w hok h => ?_) hok h)
    cases x with
    | normal => exact hQ .normal _ _ _ _ hok h
    | ret => exact hQ .ret _ _ _ _ hok h
    | exit j =>
      simp only [] at h
      show Exit.inBlock id Q (.exit j) a w
      unfold Exit.inBlock
      cases hj : Nat.beq j id with
      | true =>
        rw [hj] at h
        have := Nat.eq_of_beq_eq_true hj
        simp only [this, if_true]
        exact hQ .normal _ _ _ _ hok h
      | false =>
        rw [hj] at h
        have : j ≠ id := fun e => by subst e; simp at hj
        simp only [this, if_false]
        exact hQ (.exit j) _ _ _ _ hok h
  | loop b ih =>
    intro hc Q R k e s a w hP hQ hok h
    refine wpIn_loop_rounds m ?_
    unfold exec loopK at h
    have aux : ∀ (n : Nat) (e : Env) (s : St) (a : Act) (w : World), OkX C κ0 w0 B N e s a w → loopN (fun e s k => exec C cl m g rd f b e s k) (C.keep f (regionOf b)) n e s k = some R → Code.roundsIn F 0 P b Q n a w := by
      intro n
      induction n with
      | zero => intro e s a w _ h; cases h
      | succ n ihn =>
        intro e s a w hok h
        rw [roundsIn_succ]
        refine ih hc (hP.then _) (fun x e s a w hok h => ?_) hok h
        cases x with
        | normal => exact ihn _ _ _ _ (hok.keep _) h
        | exit id => exact hQ (.exit id) _ _ _ _ hok h
        | ret => exact hQ .ret _ _ _ _ hok h
    exact aux m _ s a w (hok.keep _) h
  | rangeFunc fv ps x y ihx ihy =>
    intro hc Q R k e s a w hP hQ hok h
    simp only [okCode, Bool.and_eq_true, List.all_eq_true] at hc
    simp only [exec] at h
    cases rd with
    | true => cases h
    | false =>
      simp only [cond_false] at h
      have hFw := hrd rfl
      subst hFw
      unfold tgtV at h
      simp only [avs] at h
      split at h
      · rename_i g0 l ht
        split at ht
        · rename_i f0 caps hgv
          cases ht
          cases hext : (C.ext g0).isSome with
          | true => rw [hext] at h; cases h
          | false =>
            rw [hext] at h
            simp only [cond_false, List.nil_append] at h
            obtain ⟨κ, β, δ, ho⟩ := hok
            have hGκ := ho.glob hG
            have hfv := opnd_SR ho.fr hGκ fv
            rw [hgv] at hfv
            simp only [SR, VR] at hfv
            obtain ⟨cs, hcs, hval⟩ := hfv
            have hdisj := back_some h
            have hex : ∃ r, cl (.f g0) (.yld s.locs.length :: caps) (s.addLoc (.loop .ready none f (stripE (C.keep f (regionOf x)) e) ps.toList x y)) = some r := by
              rcases hdisj with ⟨v, s2, h1, _⟩ | ⟨v, s2, h1, _⟩ <;> exact ⟨_, h1⟩
            obtain ⟨r, hr⟩ := hex
            have ho1 := ho.deferred
            have hsz1 : (w.alloc (.deferred (some []))).heap.size = w.heap.size + 1 := by simp
            refine wpIn_rangeFunc fun fn _ => ?_
            have hBw1 : B ≤ (w.alloc (.deferred (some []))).heap.size := by have := Nat.le_trans hB ho.mv.size; rw [hsz1]; omega
            have hrec : ObjR C (κ.addLoc s.locs.length (w.alloc (.deferred (some []))).heap.size) (.loop { state := .ready, pending := none, fn := fn, tmps := a.tmps, params := ps, assign := x, body := y, defers := w.heap.size }) (.loop .ready none f (stripE (C.keep f (regionOf x)) e) ps.toList x y) := by
              refine ⟨_, rfl, rfl, rfl, rfl, rfl, rfl, ⟨N, ho.fr.size, hc.2.1, hc.2.2, fun p hp => Nat.le_of_ble_eq_true (hc.1 p hp)⟩, fun i => ?_⟩
              · have hle : LE κ (κ.addLoc s.locs.length (w.alloc (.deferred (some []))).heap.size) := ⟨fun _ _ _ k => k, fun l b hl => by
                  have := ho.inv.locn l b hl
                  have : l ≠ s.locs.length := by omega
                  simp only [Kn.addLoc, this, if_false]; exact hl, fun _ L _ v k => ⟨L, v, k, Nat.le_refl _, fun _ => rfl⟩⟩
                rcases stripE_get (C.keep f (regionOf x)) e i with hg | hg
                · rw [hg]
                  have := ho.fr.ent i
                  cases hx : e.get i with
                  | s v => rw [hx] at this; exact SR.mono hle this
                  | none => trivial
                  | var c => trivial
                  | ptr g d off => trivial
                · rw [hg]; trivial
            obtain ⟨hI2, hM2⟩ := ho1.inv.addLoc hBw1 hrec
            have ho2 := ho1.turn hM2 hI2
            have hargs : VRl (κ.addLoc s.locs.length (w.alloc (.deferred (some []))).heap.size) (.yld s.locs.length :: caps) (.func (.yield (w.heap.size + 1)) #[] #[] :: cs) :=
              ⟨_, _, rfl, ⟨w.heap.size + 1, by simp [Kn.addLoc], rfl⟩, VRl.mono hM2.le _ _ hcs⟩
            have hcall := hcl.f g0 _ _ r.1 r.2 hr _ B _ _ hI2 (ho2.glob hG) (Nat.le_trans hBw1 hM2.size) hargs
            have hent := hcl.enter g0 _ _ _ hr hext
            refine ⟨w.heap.size + 1, [mark w.heap.size], _, { target := .fn (.func g0) cs.toArray, args := #[.func (.yield (w.heap.size + 1)) #[] #[]] }, ((w.alloc (.deferred (some []))).alloc (.loop { state := .ready, pending := none, fn := fn, tmps := a.tmps, params := ps, assign := x, body := y, defers := w.heap.size })), g0, (.func (.yield (w.heap.size + 1)) #[] #[] :: cs).toArray, ((w.alloc (.deferred (some []))).alloc (.loop { state := .ready, pending := none, fn := fn, tmps := a.tmps, params := ps, assign := x, body := y, defers := w.heap.size })), run_enterLoop_outer fn a.tmps ps x y, ?_, fun _ _ => trivial, ?_, fun h => (by cases h), ?_⟩
            · show (Deferred.ofValue (a.eval fv) ((#[.const (.func (.yield (w.heap.size + 1)) #[] #[])] : Array Operand).map a.eval)).run P _ = _
              rw [hval]
              simp [Deferred.ofValue, Act.eval]
            · have := hent (.func (.yield (w.heap.size + 1)) #[] #[] :: cs).toArray ((w.alloc (.deferred (some []))).alloc (.loop { state := .ready, pending := none, fn := fn, tmps := a.tmps, params := ps, assign := x, body := y, defers := w.heap.size }))
              simpa [invoke] using this
            · have hin : CallsIn Fence.wide 0 P g0 (.func (.yield (w.heap.size + 1)) #[] #[] :: cs).toArray ((w.alloc (.deferred (some []))).alloc (.loop { state := .ready, pending := none, fn := fn, tmps := a.tmps, params := ps, assign := x, body := y, defers := w.heap.size })) (CPost C (κ.addLoc s.locs.length (w.alloc (.deferred (some []))).heap.size) B ((w.alloc (.deferred (some []))).alloc (.loop { state := .ready, pending := none, fn := fn, tmps := a.tmps, params := ps, assign := x, body := y, defers := w.heap.size })) r.1 r.2) := by
                rcases hcall with ⟨v, w', hrun, _⟩ | ⟨_, hin⟩
                · rw [hent] at hrun; cases hrun
                · exact hin
              refine hin.mono fun en w3 hp => ?_
              obtain ⟨κ3, hM3, hI3, hout⟩ := hp
              have ho3 := ho2.turn hM3 hI3
              rcases hdisj with ⟨v, s2, h1, h2⟩ | ⟨v, s2, h1, rfl⟩
              · rw [hr] at h1
                cases h1
                cases en with
                | returned u =>
                  unfold endK endX at h2
                  split at h2
                  · rename_i st pend f' env' ps' x' y' hloc
                    have hbusy : st ≠ .busy := fun e => by subst e; cases h2
                    have h3 : bindS (setLoop s.locs.length .exhausted pend s2) (fun s => pendK pend k e s) = some R := by
                      cases st <;> first | exact absurd rfl hbusy | exact h2
                    have hs4 : setLoop s.locs.length .exhausted pend s2 = some { s2 with locs := s2.locs.set s.locs.length (.loop .exhausted pend f' env' ps' x' y') } := by
                      unfold setLoop; rw [hloc]
                    rw [hs4] at h3
                    simp only [bindS] at h3
                    obtain ⟨b, o, hb1, hb2, hb3, hb4⟩ := hI3.locs _ _ hloc
                    have hbl : b = w.heap.size + 1 := by
                      have := hM3.le.loc s.locs.length (w.heap.size + 1) (by simp [Kn.addLoc])
                      rw [hb1] at this
                      exact Option.some.inj this
                    subst hbl
                    obtain ⟨L, rfl, q1, q2, q3⟩ := hb4
                    have hlt := (Array.getElem?_eq_some_iff.1 hb3).1
                    have hend := run_endLoop (P := P) hb3 (q1.ne_busy hbusy)
                    obtain ⟨hI4, hM4⟩ := hI3.setLoc (w' := w3.putObj (w.heap.size + 1) (.loop { L with state := .exhausted })) hb1 (x := .loop .exhausted pend f' env' ps' x' y') ⟨{ L with state := .exhausted }, rfl, rfl, q2, q3⟩ (World.putObj_heap_same hlt) (grownBy_putObj _ _ _)
                    have ho4 : OkX C κ0 w0 B N e { s2 with locs := s2.locs.set s.locs.length (.loop .exhausted pend f' env' ps' x' y') } { a with defers := [mark w.heap.size] ++ a.defers } (w3.putObj (w.heap.size + 1) (.loop { L with state := .exhausted })) := ⟨_, _, _, ho3.turn hM4 hI4⟩
                    refine ⟨L.pending, _, hend, ?_⟩
                    cases pend with
                    | none =>
                      simp only [PendR] at q2
                      rw [q2] at ho4 ⊢
                      exact hQ .normal _ _ _ _ ho4 h3
                    | some xx =>
                      cases xx with
                      | normal => exact q2.elim
                      | ret =>
                        simp only [PendR] at q2
                        rw [q2] at ho4 ⊢
                        exact wpIn_ret (hQ .ret _ _ _ _ ho4 h3)
                      | exit id =>
                        simp only [PendR] at q2
                        rw [q2] at ho4 ⊢
                        exact wpIn_exit (hQ (.exit id) _ _ _ _ ho4 h3)
                  · cases h2
                | panicked c => exact hout.elim
                | outgrown => exact hout.elim
              · rw [hr] at h1
                cases h1
                cases en with
                | returned u => exact hout.elim
                | panicked c => exact hP.pan _ _ _ _ _ _ _ _ _ rfl ho3 hout
                | outgrown => exact hout.elim
        · cases ht
        · cases ht
      · cases h
  | refuse => intro _ Q R k e s a w hP hQ hok h; cases h

end
end Go.Am
