/- Calls and rounds. -/
import Derived.Test.YtemfpnlpnmglfaaA20
set_option linter.unusedVariables false
set_option linter.unusedSimpArgs false
namespace Go.Am
open Go Go.RowKit

section
variable {P : Program} {C : Cfg} {κ κ' κ0 : Kn} {B B' N : Nat} {s s' : St} {w w' w0 : World} {e : Env} {a : Act} {β : Nat → Option Nat} {δ : List Nat} {cl : CallFn} {F : Fence}

theorem callFunc_enter {f : FuncId} {fn : Func} (hf : P.funcs[f]? = some fn) (hn : (fn.name == "runtime.NumGoroutine") = false) {b : Code} (hb : fn.body = some b) (args : Array Value) (w : World) : (callFunc f args).run P w = .ok (.enter f args) w := by
  have hn' : ¬ fn.name = "runtime.NumGoroutine" := by simpa using hn
  unfold callFunc
  simp [hf, hn', hb]

theorem fun_sim (hOK : CodeOK P C) (hcl : CallsOK P C cl) {m : Nat} {g : Bool} {f : FuncId} {fn : Func} (hc : C.code f = some fn) {b : Code} (hb : fn.body = some b) {l : List AV} {o : Out} (hlen : l.length ≤ fn.ntmps)
    (h : exec C cl m g false f b (argE 0 l) s (outK C fn.results.toList) = some (o, s')) (hI : Inv C κ B s w) (hG : GlobOK C κ) (hB : B ≤ w.heap.size) {vs : List Value} (hv : VRl κ l vs) :
    CallsIn Fence.wide 0 P f vs.toArray w (CPost C κ B w o s') := by
  obtain ⟨hf, hn, hok⟩ := hOK.code f fn hc
  refine callsIn_of_wp_marks hf hb trivial ?_
  have h0 : OkX C κ w B fn.ntmps (argE 0 l) s { tmps := vs.toArray ++ Array.replicate (fn.ntmps - vs.toArray.size) undef, defers := [] } w := ⟨_, _, _, start_ok hI hv hlen⟩
  have ret : ∀ x e s1 a w1, OkX C κ w B fn.ntmps e s1 a w1 → bind1 (resS C e s1 fn.results.toList) (fun v => some (.ret v, s1)) = some (o, s') → LeavesInM Fence.wide 0 P fn a.tmps (CPost C κ B w o s') a.defers .returning w1 ∨ x = AExit.exit 0 := by
    intro x e s1 a w1 ⟨κ1, β1, δ1, h1⟩ hr
    refine .inl ?_
    cases hres : resS C e s1 fn.results.toList with
    | none => rw [hres] at hr; cases hr
    | some sl =>
      rw [hres] at hr
      simp only [bind1, Option.some.injEq, Prod.mk.injEq] at hr
      obtain ⟨rfl, rfl⟩ := hr
      rw [h1.fr.defers]
      refine leaves_sim (by simp) (fun a2 w2 h2 ht => ?_) δ1 a w1 h1 rfl
      obtain ⟨z, hz1, hz2⟩ := resS_sim hOK.ty (h2.glob hG) h2.fr h2.inv hres
      rw [ht] at hz1
      exact ⟨z, hz1, κ1, h2.mv, h2.inv, hz2⟩
  refine exec_sim (κ0 := κ) (w0 := w) hOK.ty hcl hB hG (.inl rfl) (fun _ => rfl) b (hok b hb) (Q := bodyPostM Fence.wide 0 P fn (CPost C κ B w o s')) (R := (o, s')) ⟨fun v s1 e a w1 κ1 β1 δ1 chain hR h1 hch => ?_⟩ (fun x e s1 a w1 hok1 hr => ?_) h0 h
  · cases hR
    show LeavesInM Fence.wide 0 P fn a.tmps _ a.defers (.panicking chain) w1
    rw [h1.fr.defers]
    refine leaves_sim (by simp) (fun a2 w2 h2 ht => ?_) δ1 a w1 h1 rfl
    exact ⟨κ1, h2.mv, h2.inv, hch⟩
  · cases x with
    | normal => exact (ret .normal e s1 a w1 hok1 hr).resolve_right (by simp)
    | ret => exact (ret .ret e s1 a w1 hok1 hr).resolve_right (by simp)
    | exit id => cases hr

theorem setPs_sim : ∀ {ps : List Nat} {args : List AV} {e e1 : Env} {vs : List Value} {tmps : Array Value}, setPs ps args e = some e1 → VRl κ args vs → (∀ i, EntR0 κ (e.get i) (tmps.getD i undef)) → (∀ p ∈ ps, p < tmps.size) →
    (∀ i, EntR0 κ (e1.get i) (((ps.zip vs).foldl (fun tmps (x : Nat × Value) => tmps.setIfInBounds x.1 x.2) tmps).getD i undef)) ∧ ((ps.zip vs).foldl (fun tmps (x : Nat × Value) => tmps.setIfInBounds x.1 x.2) tmps).size = tmps.size ∧ ps.length = vs.length
  | [], [], e, e1, vs, tmps, h, hv, he, _ => by
    simp only [setPs] at h
    cases h
    simp only [VRl] at hv
    subst hv
    exact ⟨he, rfl, rfl⟩
  | [], _ :: _, _, _, _, _, h, _, _, _ => by simp [setPs] at h
  | _ :: _, [], _, _, _, _, h, _, _, _ => by simp [setPs] at h
  | p :: ps, x :: args, e, e1, vs, tmps, h, hv, he, hp => by
    simp only [setPs] at h
    simp only [VRl] at hv
    obtain ⟨u, us, rfl, hu, hus⟩ := hv
    have hlt := hp p List.mem_cons_self
    obtain ⟨h1, h2, h3⟩ := setPs_sim (tmps := tmps.setIfInBounds p u) h hus (fun i => by
      rw [Env.get_cons]
      by_cases hi : p = i
      · subst hi
        rw [if_pos rfl]
        show VR κ x _
        simpa [Array.getD_eq_getD_getElem?, hlt] using hu
      · rw [if_neg hi]
        have := he i
        simp only [Array.getD_eq_getD_getElem?, Array.getElem?_setIfInBounds_ne hi] at this ⊢
        exact this) (fun q hq => by simpa using hp q (List.mem_cons_of_mem _ hq))
    simp only [List.zip_cons_cons, List.foldl_cons, List.length_cons]
    exact ⟨h1, by simpa using h2, by omega⟩

theorem EntR0.ent : ∀ {x : Ent} {v : Value} {i : Nat}, EntR0 κ x v → EntR κ w (fun _ => none) i x v
  | .none, _, _, _ => trivial
  | .s _, _, _, h => h
  | .var _, _, _, h => h.elim
  | .ptr _ _ _, _, _, h => h.elim

/-- one round of a range over a function -/
theorem round_sim (hOK : CodeOK P C) (hcl : CallsOK P C cl) {m : Nat} {g : Bool} {loc : Nat} {f : FuncId} {e e1 : Env} {ps : List Nat} {asg body : Code} (hloc : s.locs[loc]? = some (.loop .ready none f e ps asg body)) {l : List AV} (hps : setPs ps l e = some e1) {o : Out}
    (h : noPan (exec C cl m g true f asg e1 s (fun x e s => match x with
        | .normal => bindS (beginL loc s) (fun s => exec C cl m g true f body e s (roundK loc))
        | _ => none)) = some (o, s')) (hI : Inv C κ B s w) (hG : GlobOK C κ) (hB : B ≤ w.heap.size) {vs : List Value} (hv : VRl κ l vs) {b : Nat} (hb : κ.loc loc = some b) :
    ∃ fn t x y, (Instr.yield b vs.toArray).run P w = .ok (.round b fn t x y) w ∧ RoundIn Fence.wide 0 P b fn t x y w (CPost C κ B w o s') := by
  obtain ⟨v, hret, h⟩ : ∃ v, o = .ret v ∧ exec C cl m g true f asg e1 s (fun x e s => match x with
        | .normal => bindS (beginL loc s) (fun s => exec C cl m g true f body e s (roundK loc))
        | _ => none) = some (o, s') := by
    unfold noPan at h
    split at h
    · rename_i v s2 hx; cases h; exact ⟨v, rfl, hx⟩
    · cases h
  obtain ⟨b', ob, hb1, hb2, hb3, hb4⟩ := hI.locs loc _ hloc
  rw [hb] at hb1
  cases hb1
  obtain ⟨L, rfl, q1, q2, q3, q4, q5, ⟨N, q6, q7, q8, q9⟩, q10⟩ := hb4
  subst q3 q4 q5
  obtain ⟨r1, r2, r3⟩ := setPs_sim hps hv q10 (fun p hp => by rw [q6]; exact q9 p hp)
  have hsz : vs.toArray.size = L.params.size := by simp [← r3]
  refine ⟨_, _, _, _, run_yield hb3 hsz, ?_⟩
  have hfold : (L.params.zip vs.toArray).foldl (fun tmps (x : Tmp × Value) => tmps.setIfInBounds x.1 x.2) L.tmps = (L.params.toList.zip vs).foldl (fun tmps (x : Nat × Value) => tmps.setIfInBounds x.1 x.2) L.tmps := by
    rw [← Array.foldl_toList]
    simp
  refine roundIn_of_wpIn trivial ?_
  have h0 : OkX C κ w B N e1 s { tmps := (L.params.zip vs.toArray).foldl (fun tmps (x : Tmp × Value) => tmps.setIfInBounds x.1 x.2) L.tmps, defers := [] } w := by
    refine ⟨κ, fun _ => none, [], .refl _ _, hI, ⟨by rw [hfold, r2, q6], fun i => ?_, fun i g d off hi => ?_, fun i b hb => (by cases hb), fun i j b hb => (by cases hb), rfl, by simp, .nil⟩⟩
    · rw [hfold]; exact (r1 i).ent
    · have := r1 i
      rw [hi] at this
      exact this.elim
  -- at the end of the body
  have fin : ∀ (st : LSt) (p : Option AExit) (jump : Option Code) (vb : Bool), LStR st (if jump.isNone then .ready else .done) → PendR p jump → vb = jump.isNone → ∀ e s1 a w1, OkX C κ w B N e s1 a w1 → bindS (setLoop loc st p s1) (fun s => some (.ret (.val (.bool vb)), s)) = some (o, s') →
      ∃ v w', (Instr.endRound b jump).run P w1 = .ok v w' ∧ CPost C κ B w o s' (.returned v) w' := by
    intro st p jump vb hst hp hvb e s1 a w1 ⟨κ1, β1, δ1, h1⟩ hr
    cases hsl : setLoop loc st p s1 with
    | none => rw [hsl] at hr; cases hr
    | some s2 =>
      rw [hsl] at hr
      simp only [bindS, Option.some.injEq, Prod.mk.injEq] at hr
      obtain ⟨rfl, rfl⟩ := hr
      obtain ⟨st0, p0, f0, env0, ps0, x0, y0, hl0, rfl⟩ := setLoop_some hsl
      obtain ⟨b2, o2, k1, k2, k3, k4⟩ := h1.inv.locs loc _ hl0
      have := h1.mv.le.loc loc b hb
      rw [k1] at this
      cases this
      obtain ⟨L2, rfl, p1, p2, p3⟩ := k4
      have hlt := (Array.getElem?_eq_some_iff.1 k3).1
      have hend := run_endRound (P := P) jump k3
      obtain ⟨hI4, hM4⟩ := h1.inv.setLoc (w' := w1.putObj b (.loop { L2 with state := if jump.isNone then .ready else .done, pending := jump })) k1 (x := .loop st p f0 env0 ps0 x0 y0) ⟨{ L2 with state := if jump.isNone then .ready else .done, pending := jump }, rfl, hst, hp, p3⟩ (World.putObj_heap_same hlt) (grownBy_putObj _ _ _)
      exact ⟨_, _, hend, κ1, h1.mv.trans hM4, hI4, by subst hvb; simp only [OutR, SR, VR]⟩
  refine exec_sim (κ0 := κ) (w0 := w) hOK.ty hcl hB hG (.inr ⟨b, rfl⟩) (fun h => by cases h) L.assign q7 (R := (o, s')) ⟨fun v s1 e a w1 κ1 β1 δ1 chain hR => by rw [hret] at hR; cases hR⟩ (fun x e s1 a w1 hok1 hr => ?_) h0 h
  cases x with
  | exit id => cases hr
  | ret => cases hr
  | normal =>
    simp only [] at hr
    cases hbg : beginL loc s1 with
    | none => rw [hbg] at hr; cases hr
    | some s2 =>
      rw [hbg] at hr
      simp only [bindS] at hr
      unfold beginL at hbg
      split at hbg
      · rename_i p0 f0 env0 ps0 x0 y0 hl0
        cases hbg
        obtain ⟨κ1, β1, δ1, h1⟩ := hok1
        obtain ⟨b2, o2, k1, k2, k3, k4⟩ := h1.inv.locs loc _ hl0
        have := h1.mv.le.loc loc b hb
        rw [k1] at this
        cases this
        obtain ⟨L2, rfl, p1, p2, p3⟩ := k4
        have hlt := (Array.getElem?_eq_some_iff.1 k3).1
        have hbeg := run_beginRound (P := P) k3 p1
        obtain ⟨hI4, hM4⟩ := h1.inv.setLoc (w' := w1.putObj b (.loop { L2 with state := .busy })) k1 (x := .loop .busy p0 f0 env0 ps0 x0 y0) ⟨{ L2 with state := .busy }, rfl, rfl, p2, p3⟩ (World.putObj_heap_same hlt) (grownBy_putObj _ _ _)
        refine ⟨_, hbeg, ?_⟩
        refine exec_sim (κ0 := κ) (w0 := w) hOK.ty hcl hB hG (.inr ⟨b, rfl⟩) (fun h => by cases h) L.body q8 (Q := roundPost P b (CPost C κ B w o s')) (R := (o, s')) ⟨fun v s1 e a w1 κ1 β1 δ1 chain hR => by rw [hret] at hR; cases hR⟩ (fun x e s3 a w3 hok3 hr => ?_) ⟨κ1, β1, δ1, h1.turn hM4 hI4⟩ hr
        cases x with
        | normal => exact fin .ready none none true rfl rfl rfl _ _ _ _ hok3 hr
        | ret => exact fin .done (some .ret) (some .ret) false rfl rfl rfl _ _ _ _ hok3 hr
        | exit id => exact fin .done (some (.exit id)) (some (.exit id)) false rfl rfl rfl _ _ _ _ hok3 hr
      · cases hbg

/-- WHAT THE ABSTRACT MACHINE COMPUTES, THE PROGRAM DOES. -/
theorem call_sim_all (hOK : CodeOK P C) : ∀ n, CallsOK P C (call C n)
  | 0 => ⟨fun f l s r h => by simp [call] at h, fun f l s o s' h => by simp [call] at h, fun loc l s o s' h => by simp [call] at h⟩
  | n + 1 => by
    have ih := call_sim_all hOK n
    have code : ∀ f l s r, (C.ext f).isSome = false → call C (n + 1) (.f f) l s = some r → ∃ fn b, C.code f = some fn ∧ fn.body = some b ∧ l.length ≤ fn.ntmps ∧ exec C (call C n) n (gate n) false f b (argE 0 l) s (outK C fn.results.toList) = some r := by
      intro f l s r hx h
      simp only [call] at h
      cases hext : C.ext f with
      | some g => rw [hext] at hx; cases hx
      | none =>
        rw [hext] at h
        simp only [] at h
        split at h
        · rename_i fn hc
          split at h
          · rename_i b hb
            cases hle : Nat.ble l.length fn.ntmps with
            | false => rw [hle] at h; cases h
            | true => rw [hle] at h; exact ⟨fn, b, hc, hb, Nat.le_of_ble_eq_true hle, h⟩
          · cases h
        · cases h
    refine ⟨fun f l s r h hx args w => ?_, fun f l s o s' h κ B w vs hI hG hB hv => ?_, fun loc l s o s' h κ B w vs b hI hG hB hv hb => ?_⟩
    · obtain ⟨fn, b, hc, hb, _, _⟩ := code f l s r hx h
      obtain ⟨hf, hn, _⟩ := hOK.code f fn hc
      exact callFunc_enter hf hn hb args w
    · cases hx : (C.ext f).isSome with
      | false =>
        obtain ⟨fn, b, hc, hb, hlen, he⟩ := code f l s _ hx h
        obtain ⟨hf, hn, _⟩ := hOK.code f fn hc
        exact .inr ⟨callFunc_enter hf hn hb _ w, fun_sim hOK ih hc hb hlen he hI hG hB hv⟩
      | true =>
        obtain ⟨g, hg⟩ := Option.isSome_iff_exists.1 hx
        simp only [call, hg] at h
        split at h
        · rename_i v hv'
          cases h
          exact hOK.ext f g l v hg hv' κ B s w vs hI hG hB hv
        · cases h
    · simp only [call] at h
      split at h
      · rename_i f e ps asg body hloc
        split at h
        · rename_i e1 hps
          exact round_sim hOK ih hloc hps h hI hG hB hv hb
        · cases h
      · cases h

end
end Go.Am
