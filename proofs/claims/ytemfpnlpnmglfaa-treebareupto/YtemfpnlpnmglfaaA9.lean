/- The operations that only compute, all of them. -/
import Derived.Test.YtemfpnlpnmglfaaA8
set_option linter.unusedVariables false
set_option linter.unusedSimpArgs false
namespace Go.Am
open Go Go.RowKit

def PutR (κ : Kn) (e : Env) (β : Nat → Option Nat) : Ent → Value → Prop
  | .s sl, v => SR κ sl v
  | .ptr g d off, v => (g = true → ∃ b, β d = some b ∧ v = .pointer (some ⟨b, off, none⟩)) ∧ e.get d ≠ .none
  | _, _ => False

section
variable {P : Program} {C : Cfg} {κ : Kn} {B B' N : Nat} {s : St} {w : World} {e : Env} {a : Act} {β : Nat → Option Nat} {δ : List Nat}

/-- what an operation that only computes does -/
def DoesV (P : Program) (C : Cfg) (κ : Kn) (B : Nat) (s : St) (w : World) (e : Env) (β : Nat → Option Nat) (m : Sem Next) (k : Ent → Res) (R : Out × St) : Prop :=
  ∃ v κ' w' x, m.run P w = .ok (.value v) w' ∧ Mv κ κ' w w' ∧ Inv C κ' B s w' ∧ PutR κ' e β x v ∧ k x = some R

theorem DoesV.of (hI : Inv C κ B s w) {m : Sem Value} {r : Option Slot} {k : Ent → Res} {R : Out × St} (h : bind1 (gd true r) (fun v => k (.s v)) = some R) (hm : ∀ sl, r = some sl → ∃ z, m.run P w = .ok z w ∧ SR κ sl z) :
    DoesV P C κ B s w e β (do pure (.value (← m))) k R := by
  simp only [gd, cond_true] at h
  cases r with
  | none => cases h
  | some sl =>
    obtain ⟨z, h1, h2⟩ := hm sl rfl
    exact ⟨z, κ, w, .s sl, by simp only [Sem.run_bind, h1, Result.andThen_ok, Sem.run_pure], .refl _ _, hI, h2, h⟩

theorem DoesV.ofN (hI : Inv C κ B s w) {m : Sem Next} {r : Option Slot} {k : Ent → Res} {R : Out × St} (h : bind1 (gd true r) (fun v => k (.s v)) = some R) (hm : ∀ sl, r = some sl → ∃ z, m.run P w = .ok (.value z) w ∧ SR κ sl z) :
    DoesV P C κ B s w e β m k R := by
  simp only [gd, cond_true] at h
  cases r with
  | none => cases h
  | some sl =>
    obtain ⟨z, h1, h2⟩ := hm sl rfl
    exact ⟨z, κ, w, .s sl, h1, .refl _ _, hI, h2, h⟩

theorem optR_map (hev : ∀ x, SR κ (opnd C e x) (a.eval x)) (x : Option Operand) : OptR κ (x.map (opnd C e)) (x.map a.eval) := by
  cases x with
  | none => trivial
  | some x => exact hev x

theorem srs_map (hev : ∀ x, SR κ (opnd C e x) (a.eval x)) : ∀ l : List Operand, SRs κ (l.map (opnd C e)) (l.map a.eval)
  | [] => rfl
  | x :: l => ⟨_, _, rfl, hev x, srs_map hev l⟩

theorem one_cells : ∀ {l : List AV} {vs : List Value}, VRl κ l vs → Ones vs → ∀ y ∈ l, y.cells = [y]
  | [], _, _, _, y, hy => by simp at hy
  | x :: l, vs, h, ho, y, hy => by
    simp only [VRl] at h
    obtain ⟨u, us, rfl, h1, h2⟩ := h
    rcases List.mem_cons.1 hy with rfl | hy
    · have hu := ho u List.mem_cons_self
      cases y <;> first | rfl | (simp only [VR] at h1; obtain ⟨_, _, _, rfl⟩ := h1; simp [Value.oneCell'] at hu)
    · exact one_cells h2 (fun u hu => ho u (List.mem_cons_of_mem _ hu)) y hy

theorem sliceA_sim (hT : ∀ t, TyOK P C t) {t e' : TypeId} {n : Nat} (hk : (C.ti t).k = .array n e') (w : World) {sx sl : Slot} {u : Value} {lo hi mx : Option Slot} {lv hv mv : Option Value}
    (hx : SR κ sx u) (h1 : OptR κ lo lv) (h2 : OptR κ hi hv) (h3 : OptR κ mx mv) (h : sliceA n (C.ti e') sx lo hi mx = some sl) : ∃ z, (Instr.sliceAt t u lv hv mv).run P w = .ok z w ∧ SR κ sl z := by
  have hK := (hT t).kind
  rw [hk] at hK; simp only [KOk] at hK
  unfold sliceA at h
  split at h
  · rename_i cs
    cases h0 : Nat.beq (C.ti e').size 0 with
    | true => rw [h0] at h; cases h
    | false =>
      rw [h0] at h
      simp only [cond_false] at h
      have hz : (C.ti e').size ≠ 0 := by intro e; rw [e] at h0; cases h0
      split at h
      · cases h
      · cases mv with
        | some v => exact h3.elim
        | none =>
          split at h
          · rename_i hh e1
            split at h
            · rename_i x e2
              split at h
              · rename_i l hl
                cases h
                obtain ⟨r, ha, hb⟩ := bounds2 (P := P) h1 h2 (Nat.le_refl _) false e1 e2 w
                simp only [SR, VR] at hx
                obtain ⟨b, vs, rfl, g1, g2, g3, g4⟩ := hx
                have hone := one_cells g4 g3
                have key : ∀ (n : Nat) (cs l : List AV), (∀ y ∈ cs, y.cells = [y]) → rows (C.ti e') n cs = some l → l.length = n ∧ (∀ x ∈ l, x.cells.length = (C.ti e').size) ∧ flat l = cs.take (n * (C.ti e').size) := by
                  intro n
                  induction n with
                  | zero => intro cs l _ h; simp only [rows] at h; cases h; simp [flat]
                  | succ n ih =>
                    intro cs l hcs h
                    simp only [rows] at h
                    split at h
                    · rename_i v hv
                      split at h
                      · rename_i l' hl'
                        cases h
                        obtain ⟨k1, k2, k3⟩ := ih _ _ (fun y hy => hcs y (List.mem_of_mem_drop hy)) hl'
                        have hc : v.cells = cs.take (C.ti e').size ∧ v.cells.length = (C.ti e').size := by
                          unfold ofCells at hv
                          cases hag : (C.ti e').isAgg with
                          | true =>
                            rw [hag] at hv
                            simp only [cond_true] at hv
                            split at hv
                            · rename_i hlen
                              cases hv
                              exact ⟨rfl, hlen⟩
                            · cases hv
                          | false =>
                            rw [hag] at hv
                            simp only [cond_false] at hv
                            obtain ⟨_, _, _, _, _, _, _, _, _, _, hone⟩ := (hT e').info (nbad hT hz)
                            have h1s := (hone hag).2
                            split at hv
                            · rename_i y hy
                              cases hv
                              have hm : v ∈ cs := List.mem_of_mem_take (by rw [hy]; exact List.mem_cons_self)
                              rw [hcs v hm, hy, h1s]
                              exact ⟨rfl, rfl⟩
                            · cases hv
                        refine ⟨by simp [k1], fun y hy => ?_, ?_⟩
                        · rcases List.mem_cons.1 hy with rfl | hy
                          · exact hc.2
                          · exact k2 y hy
                        · simp only [flat, List.flatMap_cons] at k3 ⊢
                          rw [k3, hc.1, Nat.add_mul, Nat.one_mul, Nat.add_comm, List.take_add]
                      · cases h
                    · cases h
                obtain ⟨k1, k2, k3⟩ := key n cs l hone hl
                have hsa : SlA κ l b n n := ⟨k1, Nat.le_refl _, fun _ => g1, _, vs.take (n * (C.ti e').size), k2, g2.take _, g3.take _, by rw [k3]; exact g4.take _⟩
                have := hsa.part k2 ha hb hb
                refine ⟨_, ?_, VR_sl.2 ⟨_, _, _, rfl, this⟩⟩
                simp [Instr.sliceAt, run_underlying hK, Instr.sureAddr, r, run_sizeOf' (P := P) hT (nbad hT hz)]
              · cases h
            · cases h
          · cases h
  · cases h

theorem ent_s (hf : FrameR κ B w N e a β δ) (hG : GlobOK C κ) {x : Operand} {v : Slot} (h : ent C e x = .s v) : SR κ v (a.eval x) := by
  cases x with
  | tmp t =>
    have := hf.ent t
    simp only [ent] at h
    rw [h] at this
    exact this
  | const v' => simp only [ent] at h; cases h; exact opnd_SR hf hG _
  | global g => simp only [ent] at h; cases h; exact opnd_SR hf hG _
  | func f => simp only [ent] at h; cases h; exact opnd_SR hf hG _

theorem ent_ptr (hf : FrameR κ B w N e a β δ) {x : Operand} {g : Bool} {d off : Nat} (h : ent C e x = .ptr g d off) : PutR κ e β (.ptr g d off) (a.eval x) := by
  cases x with
  | tmp t =>
    have := hf.ent t
    simp only [ent] at h
    rw [h] at this
    exact ⟨this, hf.ptr t g d off h⟩
  | const v' => simp only [ent] at h; cases h
  | global g => simp only [ent] at h; cases h
  | func f => simp only [ent] at h; cases h

theorem ent_var {x : Operand} {cs : List Slot} (h : ent C e x = .var cs) : ∃ d, x = .tmp d ∧ e.get d = .var cs := by
  cases x with
  | tmp t => exact ⟨t, rfl, h⟩
  | const v' => simp only [ent] at h; cases h
  | global g => simp only [ent] at h; cases h
  | func f => simp only [ent] at h; cases h

theorem pure_sim (hT : ∀ t, TyOK P C t) (hG : GlobOK C κ) (hf : FrameR κ B' w N e a β δ) (hI : Inv C κ B s w) (o : Oper) (hp : isPure C o.op = true) {k : Ent → Res} {R : Out × St} (h : pureK C e true o.op k = some R) :
    DoesV P C κ B s w e β (execOp a.eval o) k R := by
  have hev := fun x => opnd_SR hf hG x
  unfold execOp
  cases hop : o.op <;> rw [hop] at h hp <;> simp only [isPure] at hp <;> try (cases hp; done)
  case move x => exact ⟨_, κ, w, .s _, rfl, .refl _ _, hI, hev x, h⟩
  case assign x => exact ⟨_, κ, w, .s _, rfl, .refl _ _, hI, hev x, h⟩
  case pick c x y => exact DoesV.ofN hI h fun sl hs => pick_sim w (hev c) (hev x) (hev y) hs
  case build t ps =>
    refine DoesV.of hI h fun sl hs => ?_
    simp only [pureS] at hs
    cases hb : bldOk C (C.ti t) with
    | false => rw [hb] at hs; cases hs
    | true =>
      rw [hb] at hs
      simp only [cond_true] at hs
      split at hs
      · rename_i l hl
        refine build_sim hT hev hl hs ?_ w
        unfold bldOk at hb
        split at hb
        · rename_i fs hk; exact ⟨fs, .inl hk⟩
        · rename_i n et hk
          refine ⟨[], .inr ⟨n, et, hk, fun e => ?_⟩⟩
          rw [e] at hb
          cases hb
        · cases hb
      · cases hs
  case buildSlice t n ps =>
    simp only [pureK, gd, cond_true, pureS] at h
    cases hk : (C.ti t).k <;> rw [hk] at h <;> try (cases h; done)
    case slice et =>
      simp only [] at h
      cases hb : inOrder 0 ps.toList && Nat.beq ps.toList.length n && Nat.ble (n * (C.ti et).size) 16777216 && Nat.blt 0 (C.ti et).size with
      | false => rw [hb] at h; cases h
      | true =>
        rw [hb] at h
        simp only [cond_true] at h
        simp only [Bool.and_eq_true] at hb
        obtain ⟨⟨⟨b1, b2⟩, b3⟩, b4⟩ := hb
        have b4' : (C.ti et).size ≠ 0 := by intro e; rw [e] at b4; cases b4
        cases hs : bslF (C.ti et).size (ps.toList.map fun p => opnd C e p.2) with
        | none => rw [hs] at h; cases h
        | some sl =>
          rw [hs] at h
          obtain ⟨z, κ', w', r1, r2, r3, r4⟩ := buildSlice_sim hT hI hev hk b4' b1 (Nat.eq_of_beq_eq_true b2) (Nat.le_of_ble_eq_true b3) hs
          exact ⟨z, κ', w', .s sl, by simp only [Sem.run_bind, r1, Result.andThen_ok, Sem.run_pure], r2, r3, r4, h⟩
  case nilCheck x =>
    simp only [pureK] at h
    split at h
    · rename_i w' d o he
      have hr := ent_ptr hf he
      unfold chkP at h
      cases w' with
      | false => cases h
      | true =>
        obtain ⟨b, hb, hv⟩ := hr.1 rfl
        simp only [hv]
        exact ⟨_, κ, w, .ptr true d o, rfl, .refl _ _, hI, ⟨fun _ => ⟨b, hb, rfl⟩, hr.2⟩, h⟩
    · rename_i v he
      have hr := ent_s hf hG he
      refine DoesV.ofN hI h fun sl hs => ?_
      obtain ⟨p, hp, hq⟩ := nilCheckV_sim hr hs
      rw [hp] at hq
      simp only [hp]
      exact ⟨_, rfl, hq⟩
    · cases h
  case binOp op t x y _ => exact DoesV.of hI h fun sl hs => bin_sim hT t op x y w (hev x) (hev y) hs
  case unOp op _ x => exact DoesV.of hI h fun sl hs => un_sim op w (hev x) hs
  case convert s' d x => exact DoesV.of hI h fun sl hs => conv_sim hT s' d w (hev x) hs
  case makeInterface t x =>
    refine DoesV.of hI h fun sl hs => ?_
    simp only [pureS] at hs
    split at hs
    · cases hs
    · cases hs
    · rename_i h1 h2
      exact ifc_sim hT h1 h2 w (hev x) hs
  case makeFunc fn first cap =>
    cases fn <;> try (cases h; done)
    case func f =>
      refine DoesV.of hI h fun sl hs => ?_
      simp only [pureS] at hs
      cases hb : first.isEmpty with
      | false => rw [hb] at hs; cases hs
      | true =>
        rw [hb] at hs
        have hf : first = #[] := by simpa using hb
        subst hf
        have := fn_sim (srs_map hev cap.toList) hs
        exact ⟨.func (.func f) #[] (cap.map a.eval), by simp [Instr.makeFunc], by rw [show cap.map a.eval = (cap.toList.map a.eval).toArray from Array.toList_inj.1 (by simp)]; exact this⟩
  case slice t x lo hi mx =>
    refine DoesV.of hI h fun sl hs => ?_
    simp only [pureS] at hs
    split at hs
    · rename_i n et hk
      exact sliceA_sim hT hk w (hev x) (optR_map hev lo) (optR_map hev hi) (optR_map hev mx) hs
    · rename_i et hk
      exact slice_sim hT (fun e' h => by rw [hk] at h; cases h; rfl) w (hev x) (optR_map hev lo) (optR_map hev hi) (optR_map hev mx) hs
    · rename_i h1 h2
      exact slice_sim hT (fun e' h => absurd h (h2 e')) w (hev x) (optR_map hev lo) (optR_map hev hi) (optR_map hev mx) hs
  case fieldAddr t x f =>
    simp only [pureK] at h
    split at h
    · rename_i off ft hft
      cases h0 : Nat.beq (C.ti ft).size 0 with
      | true => rw [h0] at h; cases h
      | false =>
        rw [h0] at h
        simp only [cond_false] at h
        have hz : (C.ti ft).size ≠ 0 := by intro e; rw [e] at h0; cases h0
        have hrun := fun p => fieldAt_sim (P := P) hT hft hz (nbad hT hz) p w
        unfold faK at h
        split at h
        · rename_i cs he
          obtain ⟨d, rfl, hd⟩ := ent_var he
          simp only [Operand.tmp?] at h
          have := hf.ent d
          rw [hd] at this
          obtain ⟨b, _, _, h1, h2, _⟩ := this
          refine ⟨.pointer (some ⟨b, off, none⟩), κ, w, .ptr true d off, ?_, .refl _ _, hI, ⟨fun _ => ⟨b, h1, rfl⟩, by rw [hd]; simp⟩, h⟩
          have h2' : a.eval (.tmp d) = .pointer (some ⟨b, 0, none⟩) := h2
          simp only [h2', Sem.run_bind, hrun, Result.andThen_ok, Sem.run_pure, add_plain, Nat.zero_add]
        · rename_i w' d o he
          have hr := ent_ptr hf he
          unfold chkP at h
          cases w' with
          | false => cases h
          | true =>
            obtain ⟨b, hb, hv⟩ := hr.1 rfl
            refine ⟨.pointer (some ⟨b, o + off, none⟩), κ, w, .ptr true d (o + off), ?_, .refl _ _, hI, ⟨fun _ => ⟨b, hb, rfl⟩, hr.2⟩, h⟩
            simp only [hv, Sem.run_bind, hrun, Result.andThen_ok, Sem.run_pure, add_plain]
        · rename_i v he
          have hr := ent_s hf hG he
          refine DoesV.of hI h fun sl hs => ?_
          obtain ⟨p, hp, hq⟩ := faV_sim hr hs
          simp only [hp]
          exact ⟨_, hrun p, hq⟩
        · cases h
    · cases h
  case field t x f =>
    refine DoesV.of hI h fun sl hs => ?_
    simp only [pureS] at hs
    split at hs
    · rename_i off ft hft
      exact field_sim hT hft w (hev x) hs
    · cases hs
  case indexAddr t x i =>
    refine DoesV.of hI h fun sl hs => ?_
    simp only [pureS] at hs
    split at hs
    · rename_i et hk; exact ix_sim hT hk w (hev x) (hev i) hs
    · rename_i n et hk; exact ixA_sim hT hk w (hev x) (hev i) hs
    · cases hs
  case index t x i =>
    exact DoesV.of hI h fun sl hs => index_sim hT (fun n e' hk => by rw [hk]) w (hev x) (hev i) hs
  case extract x i => exact DoesV.of hI h fun sl hs => extract_sim w (hev x) hs
  case call c =>
    obtain ⟨cal, args, ts⟩ := c
    cases cal with
    | invoke r n => cases hp
    | value f => cases hp
    | builtin b =>
      cases b <;> try (cases hp; done)
      case len =>
        simp only at hp
        split at hp
        · rename_i t hts
          refine DoesV.ofN hI h fun sl hs => ?_
          simp only [pureS] at hs
          split at hs
          · rename_i x t' hx ht'
            rw [hts] at ht'
            cases ht'
            have e1 : args = #[x] := Array.toList_inj.1 hx
            have e2 : ts = #[t] := Array.toList_inj.1 hts
            subst e1; subst e2
            obtain ⟨z, h1, h2⟩ := len_sim hT t o.type w (hev x) hs
            exact ⟨z, by simp [resolve, invoke, builtin, h1], h2⟩
          · cases hs
        · cases hp
      case max =>
        refine DoesV.ofN hI h fun sl hs => ?_
        simp only [pureS] at hs
        split at hs
        · rename_i x y hx
          have e1 : args = #[x, y] := Array.toList_inj.1 hx
          subst e1
          obtain ⟨z, h1, h2⟩ := max2_sim (P := P) w (hev x) (hev y) hs
          exact ⟨z, by simp [resolve, invoke, builtin, Builtin.max_, h1], h2⟩
        · rename_i x y z' hx
          have e1 : args = #[x, y, z'] := Array.toList_inj.1 hx
          subst e1
          unfold max3 at hs
          split at hs
          · rename_i v hv
            obtain ⟨z, h1, h2⟩ := max2_sim (P := P) w (hev x) (hev y) hv
            obtain ⟨z2, h3, h4⟩ := max2_sim (P := P) w h2 (hev z') hs
            exact ⟨z2, by simp [resolve, invoke, builtin, Builtin.max_, h1, h3], h4⟩
          · cases hs
        · cases hs
      case min =>
        refine DoesV.ofN hI h fun sl hs => ?_
        simp only [pureS] at hs
        split at hs
        · rename_i x y hx
          have e1 : args = #[x, y] := Array.toList_inj.1 hx
          subst e1
          obtain ⟨z, h1, h2⟩ := min2_sim (P := P) w (hev x) (hev y) hs
          exact ⟨z, by simp [resolve, invoke, builtin, Builtin.min_, h1], h2⟩
        · cases hs

end
end Go.Am
