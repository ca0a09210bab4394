/- The abstract machine without fuel: what a call comes to, as equations. -/
import Derived.Test.YtemfpnlpnmglfaaA23
set_option linter.unusedVariables false
set_option linter.unusedSimpArgs false
namespace Go.Am
open Go

def Le (r r' : Res) : Prop := ∀ x, r = some x → r' = some x

theorem Le.refl (r : Res) : Le r r := fun _ h => h
theorem Le.trans {a b c : Res} (h : Le a b) (k : Le b c) : Le a c := fun x hx => k x (h x hx)
theorem Le.none (r : Res) : Le none r := fun _ h => by cases h

/-- it looks at finitely many answers, and takes what it is given -/
def Fs {α : Type} (Φ : CallFn → (α → Res) → Res) : Prop :=
  ∀ cl k x, Φ cl k = some x → ∃ (Lc : List (Callee × List AV × St)) (Lk : List α), ∀ cl' k', (∀ p ∈ Lc, Le (cl p.1 p.2.1 p.2.2) (cl' p.1 p.2.1 p.2.2)) → (∀ a ∈ Lk, Le (k a) (k' a)) → Φ cl' k' = some x

section
variable {α β : Type}

theorem fs_const (r : Res) : Fs (α := α) fun _ _ => r := fun _ _ _ h => ⟨[], [], fun _ _ _ _ => h⟩
theorem fs_k (a : α) : Fs fun _ (k : α → Res) => k a := fun _ _ x h => ⟨[], [a], fun _ _ _ hk => hk a (by simp) x h⟩

theorem fs_all {Ψ : α → CallFn → (β → Res) → Res} (h : ∀ a, Fs (Ψ a)) (cl : CallFn) (k : β → Res) : ∀ L : List α, ∃ (Lc : List (Callee × List AV × St)) (Lk : List β), ∀ cl' k',
    (∀ p ∈ Lc, Le (cl p.1 p.2.1 p.2.2) (cl' p.1 p.2.1 p.2.2)) → (∀ a ∈ Lk, Le (k a) (k' a)) → ∀ a ∈ L, Le (Ψ a cl k) (Ψ a cl' k')
  | [] => ⟨[], [], fun _ _ _ _ a ha => by cases ha⟩
  | a :: L => by
    obtain ⟨Lc, Lk, h1⟩ := fs_all h cl k L
    cases hx : Ψ a cl k with
    | none =>
      refine ⟨Lc, Lk, fun cl' k' hc hk b hb => ?_⟩
      rcases List.mem_cons.1 hb with rfl | hb
      · rw [hx]; exact Le.none _
      · exact h1 cl' k' hc hk b hb
    | some x =>
      obtain ⟨Mc, Mk, h2⟩ := h a cl k x hx
      refine ⟨Mc ++ Lc, Mk ++ Lk, fun cl' k' hc hk b hb => ?_⟩
      rcases List.mem_cons.1 hb with rfl | hb
      · intro y hy
        rw [hx] at hy
        rw [← hy]
        exact h2 cl' k' (fun p hp => hc p (List.mem_append_left _ hp)) (fun p hp => hk p (List.mem_append_left _ hp))
      · exact h1 cl' k' (fun p hp => hc p (List.mem_append_right _ hp)) (fun p hp => hk p (List.mem_append_right _ hp)) b hb

theorem fs_bind {Φ : CallFn → (α → Res) → Res} {Ψ : α → CallFn → (β → Res) → Res} (h : Fs Φ) (g : ∀ a, Fs (Ψ a)) : Fs fun cl k => Φ cl fun a => Ψ a cl k := by
  intro cl k x hx
  obtain ⟨Lc, Lk, h1⟩ := h cl _ x hx
  obtain ⟨Mc, Mk, h2⟩ := fs_all g cl k Lk
  exact ⟨Lc ++ Mc, Mk, fun cl' k' hc hk => h1 cl' _ (fun p hp => hc p (List.mem_append_left _ hp)) (h2 cl' k' (fun p hp => hc p (List.mem_append_right _ hp)) hk)⟩

theorem fs_det {m : (α → Res) → Res} (h : Det m) : Fs fun _ k => m k := by
  rcases h with h | ⟨a, h⟩
  · intro _ k x hx; simp only [h] at hx; cases hx
  · intro _ k x hx
    simp only [h] at hx
    exact ⟨[], [a], fun _ k' _ hk => by simp only [h]; exact hk a (by simp) x hx⟩

theorem Fs.congr {Φ Φ' : CallFn → (α → Res) → Res} (h : Fs Φ') (e : ∀ cl k, Φ cl k = Φ' cl k) : Fs Φ := by
  have : Φ = Φ' := funext fun cl => funext fun k => e cl k
  rw [this]; exact h

theorem Fs.mono {Φ : CallFn → (α → Res) → Res} (h : Fs Φ) {cl cl' : CallFn} {k k' : α → Res} (hc : ∀ c l s, Le (cl c l s) (cl' c l s)) (hk : ∀ a, Le (k a) (k' a)) : Le (Φ cl k) (Φ cl' k') := fun x hx => by
  obtain ⟨Lc, Lk, h1⟩ := h cl k x hx
  exact h1 cl' k' (fun p _ => hc _ _ _) (fun a _ => hk a)

theorem fs_cal (w : Bool) (t : Option (Callee × List AV)) (s : St) (p : Bool) : Fs fun cl (k : Slot × St → Res) => back (bif p then noPan (cal cl w t s) else cal cl w t s) fun v s => k (v, s) := by
  have hcase : ∀ r : Res, Fs fun (_ : CallFn) (k : Slot × St → Res) => back (bif p then noPan r else r) fun v s => k (v, s) := fun r => by
    rcases r with _ | ⟨o, s1⟩
    · exact (fs_const none).congr fun _ _ => by cases p <;> rfl
    · cases o with
      | ret v => exact (fs_k (v, s1)).congr fun _ _ => by cases p <;> rfl
      | pan v => cases p with
        | true => exact (fs_const none).congr fun _ _ => rfl
        | false => exact (fs_const (some (.pan v, s1))).congr fun _ _ => rfl
  cases w with
  | false => exact (hcase (some (.ret .no, s))).congr fun _ _ => rfl
  | true =>
    rcases t with _ | ⟨c, l⟩
    · exact (hcase none).congr fun _ _ => rfl
    · intro cl k x hx
      have hx' : back (bif p then noPan (cl c l s) else cl c l s) (fun v s => k (v, s)) = some x := hx
      cases hr : cl c l s with
      | none => rw [hr] at hx'; cases p <;> cases hx'
      | some r =>
        rw [hr] at hx'
        obtain ⟨_, Lk, h1⟩ := hcase (some r) cl k x hx'
        refine ⟨[(c, l, s)], Lk, fun cl' k' hc hk => ?_⟩
        have h2 : cl' c l s = some r := hc (c, l, s) (by simp) r hr
        show back (bif p then noPan (cl' c l s) else cl' c l s) (fun v s => k' (v, s)) = some x
        rw [h2]
        exact h1 cl k' (fun _ _ => Le.refl _) hk

/-! ### regions -/

variable {C : Cfg} {dr r : Bool} {f : FuncId} {all : List Oper}

theorem det_none {m : (α → Res) → Res} (h : ∀ k, m k = none) : Det m := .inl h
theorem det_of {m : (α → Res) → Res} (x : α) (h : ∀ k, m k = k x) : Det m := .inr ⟨x, h⟩

theorem fs_newS (mo : AMode) (cs : List Slot) (old : Ent) (s : St) (e : Env) : Fs fun _ (k : Ent × Env × St → Res) => newS mo cs old s fun v s => k (v, e, s) := by
  refine fs_det ?_
  cases mo with
  | var => cases old <;> first | exact det_of (.var cs, e, s) fun _ => rfl | exact det_none fun _ => rfl
  | con =>
    cases h : avs cs with
    | none => exact det_none fun _ => by simp [newS, h, bindA]
    | some l => exact det_of (.s (.val (.cp l)), e, s) fun _ => by simp [newS, h, bindA]
  | loc => exact det_of (.s (.val (.vp s.locs.length 0)), e, s.addLoc (.var cs)) fun _ => rfl

theorem fs_stS (rt : Root) (x : Option Nat) (e : Env) (s : St) (a : Ent) (cs : List Slot) : Fs fun _ (k : Ent × Env × St → Res) => stS rt x e s a cs fun e s => k (.s .no, e, s) := by
  refine fs_det ?_
  unfold stS
  cases rootOk rt x a with
  | false => exact det_none fun _ => rfl
  | true =>
    simp only [cond_true]
    cases a with
    | none => exact det_none fun _ => rfl
    | s v =>
      cases h : stV s v cs with
      | none => exact det_none fun _ => by simp only [h, bindS]
      | some s1 => exact det_of (.s .no, e, s1) fun _ => by simp only [h, bindS]
    | var l =>
      cases x with
      | none => exact det_none fun _ => rfl
      | some d =>
        cases h : putAt l 0 cs with
        | none => exact det_none fun _ => by simp only [h, bindL]
        | some l' => exact det_of (.s .no, (d, .var l') :: e, s) fun _ => by simp only [h, bindL]
    | ptr w d off =>
      cases h : e.get d with
      | var l =>
        simp only [h]
        cases h2 : (bif w then putAt l off cs else none) with
        | none => exact det_none fun _ => by simp only [bindL]
        | some l' => exact det_of (.s .no, (d, .var l') :: e, s) fun _ => by simp only [bindL]
      | none => exact det_none fun _ => by simp only [h]
      | s _ => exact det_none fun _ => by simp only [h]
      | ptr _ _ _ => exact det_none fun _ => by simp only [h]

theorem fs_bind2 (x : Option (Slot × St)) (e : Env) : Fs fun _ (k : Ent × Env × St → Res) => bind2 x fun v s => k (.s v, e, s) := by
  rcases x with _ | ⟨v, s⟩
  · exact fs_const none
  · exact fs_k (Ent.s v, e, s)

theorem fs_bindL (x : Option (List Slot)) {Φ : List Slot → CallFn → (α → Res) → Res} (h : ∀ l, Fs (Φ l)) : Fs fun cl k => bindL x fun l => Φ l cl k := by
  cases x with
  | none => exact fs_const none
  | some l => exact h l

theorem effK_fs (o : Oper) (rt : Root) (w : Bool) (e : Env) (s : St) : Fs fun cl (k : Ent × Env × St → Res) => effK C cl dr f o rt w e s fun v e s => k (v, e, s) := by
  have val : ∀ (g : Operand) (as : Array Operand) (ts : Array TypeId), o.op = .call { callee := .value g, args := as, argTypes := ts } → Fs fun cl (k : Ent × Env × St → Res) => effK C cl dr f o rt w e s fun v e s => k (v, e, s) := fun g as ts ho => by
    have := fs_bind (fs_cal w (tgtV (opnd C e g) (as.toList.map (opnd C e))) s dr) (Ψ := fun (p : Slot × St) (_ : CallFn) (k : Ent × Env × St → Res) => k (.s p.1, e, p.2)) (fun p => fs_k (Ent.s p.1, e, p.2))
    exact this.congr fun cl k => by unfold effK; rw [ho] <;> rfl
  have non : ∀ m : CallFn → (Ent × Env × St → Res) → Res, Fs m → (∀ cl k, effK C cl dr f o rt w e s (fun v e s => k (v, e, s)) = (bif w then m cl k else k (.s .no, e, s))) → Fs fun cl (k : Ent × Env × St → Res) => effK C cl dr f o rt w e s fun v e s => k (v, e, s) := fun m hm he => by
    cases w with
    | false => exact (fs_k (Ent.s .no, e, s)).congr fun cl k => he cl k
    | true => exact hm.congr fun cl k => he cl k
  cases ho : o.op
  case alloc t =>
    refine non (fun _ k => bif (C.ti t).isGood then newS (dstMode C f o) ((C.ti t).zero.map .val) (dstOld e o) s (fun v s => k (v, e, s)) else none) ?_ fun cl k => by unfold effK; rw [ho] <;> rfl
    cases (C.ti t).isGood with
    | false => exact fs_const none
    | true => exact fs_newS _ _ _ _ _
  case box t x => exact non (fun _ k => bindL (boxCells (C.ti t) (opnd C e x)) fun cs => newS (dstMode C f o) cs (dstOld e o) s (fun v s => k (v, e, s))) (fs_bindL _ fun cs => fs_newS _ _ _ _ _) fun cl k => by unfold effK; rw [ho] <;> rfl
  case store t a x => exact non (fun _ k => bindL (boxCells (C.ti t) (opnd C e x)) fun cs => stS rt (Operand.tmp? a) e s (ent C e a) cs (fun e s => k (.s .no, e, s))) (fs_bindL _ fun cs => fs_stS _ _ _ _ _ _) fun cl k => by unfold effK; rw [ho] <;> rfl
  case panic x =>
    refine non (fun _ _ => bif dr then none else panK (opnd C e x) s) ?_ fun cl k => by unfold effK; rw [ho] <;> rfl
    exact fs_const _
  case makeSlice t l c =>
    refine non (fun _ k => match (C.ti t).k with
      | .slice et => bind2 (makeS et (C.ti et) s (opnd C e l) (opnd C e c)) (fun v s => k (.s v, e, s))
      | _ => none) ?_ fun cl k => by unfold effK; rw [ho] <;> rfl
    split
    · exact fs_bind2 _ _
    · exact fs_const none
  case call c =>
    obtain ⟨callee, as, ts⟩ := c
    cases callee with
    | value g => exact val g as ts ho
    | builtin b =>
      cases b
      case append =>
       refine non (fun _ k => match as.toList, ts.toList with
         | [x, y], [t, u] => match (C.ti t).k, Nat.beq t u with
           | .slice et, true => bind2 (appendS et (C.ti et) s (opnd C e x) (opnd C e y)) (fun v s => k (.s v, e, s))
           | _, _ => none
         | _, _ => none) ?_ fun cl k => by unfold effK; rw [ho] <;> rfl
       split
       · split
         · exact fs_bind2 _ _
         · exact fs_const none
       · exact fs_const none
      all_goals exact non (fun _ _ => none) (fs_const none) fun cl k => by unfold effK; rw [ho] <;> rfl
    | _ => exact non (fun _ _ => none) (fs_const none) fun cl k => by unfold effK; rw [ho] <;> rfl
  all_goals exact non (fun _ _ => none) (fs_const none) fun cl k => by unfold effK; rw [ho] <;> rfl


theorem opsK_fs : ∀ (os : List Oper) (rts : List (Option Nat)) (e : Env) (s : St), Fs fun cl (k : Env × St → Res) => opsK C cl dr r f all os rts e s fun e s => k (e, s)
  | [], _, e, s => fs_k (e, s)
  | o :: os, rts, e, s => by
    cases hw : wants all e o.guard with
    | none => exact (fs_const none).congr fun cl k => by rw [opsK_cons, hw]; rfl
    | some w =>
      cases hp : isPure C o.op with
      | true =>
        exact (fs_bind (fs_det (pureK_det (C := C) (e := e) o.op w)) (fun v => opsK_fs os rts.tail (put o.dst v e) s)).congr fun cl k => by rw [opsK_cons, hw]; simp only [bindB, hp, cond_true]
      | false =>
        cases hr : isRead o.op with
        | true =>
          cases hx : gd w (readS C r (rootOf dr rts) e s o.op) with
          | none => exact (fs_const none).congr fun cl k => by rw [opsK_cons, hw]; simp only [bindB, hp, hr, hx, cond_true, cond_false, bind1]
          | some v => exact (opsK_fs os rts.tail (put o.dst (.s v) e) s).congr fun cl k => by rw [opsK_cons, hw]; simp only [bindB, hp, hr, hx, cond_true, cond_false, bind1]
        | false =>
          exact (fs_bind (effK_fs (C := C) (dr := dr) (f := f) o (rootOf dr rts) w e s) (Ψ := fun (p : Ent × Env × St) cl (k : Env × St → Res) => opsK C cl dr r f all os rts.tail (put o.dst p.1 p.2.1) p.2.2 fun e s => k (e, s)) (fun p => opsK_fs os rts.tail (put o.dst p.1 p.2.1) p.2.2)).congr fun cl k => by rw [opsK_cons, hw]; simp only [bindB, hp, hr, cond_false]

/-! ### code -/

abbrev KT := AExit × Env × St

def unc (k : K) : KT → Res := fun p => k p.1 p.2.1 p.2.2
def cur (k : KT → Res) : K := fun x e s => k (x, e, s)

theorem fs_of {Φ : CallFn → K → Res} (h : Fs fun cl (k : KT → Res) => Φ cl (cur k)) (Ψ : KT → CallFn → (KT → Res) → Res) (hg : ∀ p, Fs (Ψ p)) : Fs fun cl (k : KT → Res) => Φ cl (fun x e s => Ψ (x, e, s) cl k) :=
  fs_bind h hg

theorem loopN_fs {Φ : Env → St → CallFn → K → Res} (h : ∀ e s, Fs fun cl (k : KT → Res) => Φ e s cl (cur k)) (ks : List Nat) : ∀ (n : Nat) (e : Env) (s : St), Fs fun cl (k : KT → Res) => loopN (fun e s k => Φ e s cl k) ks n e s (cur k)
  | 0, _, _ => fs_const none
  | n + 1, e, s => by
    have ih := loopN_fs h ks n
    exact fs_of (h e s) (fun p cl k => match p.1 with
      | .normal => loopN (fun e s k => Φ e s cl k) ks n (keepE ks p.2.1) p.2.2 (cur k)
      | x => k (x, p.2.1, p.2.2)) fun p => by
        obtain ⟨x, e, s⟩ := p
        cases x with
        | normal => exact ih _ _
        | exit id => exact fs_k (AExit.exit id, e, s)
        | ret => exact fs_k (AExit.ret, e, s)

theorem fs_pendK (p : Option AExit) (e : Env) (s : St) : Fs fun _ (k : KT → Res) => pendK p (cur k) e s := by
  cases p with
  | none => exact fs_k (AExit.normal, e, s)
  | some x => exact (fs_k (x, e, s)).congr fun _ _ => pendK_some _ _ _ _

theorem fs_endK (loc : Nat) (e : Env) (s : St) : Fs fun _ (k : KT → Res) => endK loc e s (cur k) := by
  unfold endK endX
  split
  · rename_i st pend _ _ _ _ _ _
    split
    · exact fs_const none
    · cases setLoop loc .exhausted pend s with
      | none => exact fs_const none
      | some s1 => exact fs_pendK pend e s1
  · exact fs_const none

theorem exec_fs (m : Nat) (g rd : Bool) : ∀ (c : Code) (e : Env) (s : St), Fs fun cl (k : KT → Res) => exec C cl m g rd f c e s (cur k)
  | .skip, e, s => fs_k (AExit.normal, e, s)
  | .region id ops draw, e, s => fs_bind (opsK_fs (C := C) (dr := draw) (r := bif draw then (C.draws f id).1 else false) (f := f) (all := ops.toList) ops.toList (C.draws f id).2 e s) (Ψ := fun (p : Env × St) (_ : CallFn) (k : KT → Res) => k (AExit.normal, p.1, p.2)) (fun p => fs_k (AExit.normal, p.1, p.2))
  | .seq a b, e, s => fs_of (exec_fs m g rd a e s) (fun p cl k => match p.1 with
      | .normal => cutK g (C.cut f (regionOf b)) (fun e s k => exec C cl m g rd f b e s k) p.2.1 p.2.2 (cur k)
      | x => k (x, p.2.1, p.2.2)) fun p => by
        obtain ⟨x, e, s⟩ := p
        cases x with
        | normal =>
          simp only [cutK]
          cases C.cut f (regionOf b) with
          | none => exact exec_fs m g rd b e s
          | some l => cases g with
            | true => exact exec_fs m true rd b (keepE l e) s
            | false => exact fs_const none
        | exit id => exact fs_k (AExit.exit id, e, s)
        | ret => exact fs_k (AExit.ret, e, s)
  | .cond c a b, e, s => by
    simp only [exec, condS]
    cases (opnd C e c).bool? with
    | none => exact fs_const none
    | some t => cases t with
      | true => exact exec_fs m g rd a e s
      | false => exact exec_fs m g rd b e s
  | .block id b, e, s => fs_of (exec_fs m g rd b e s) (fun p _ k => match p.1 with
      | .exit j => bif Nat.beq j id then k (.normal, p.2.1, p.2.2) else k (.exit j, p.2.1, p.2.2)
      | x => k (x, p.2.1, p.2.2)) fun p => by
        obtain ⟨x, e, s⟩ := p
        cases x with
        | normal => exact fs_k (AExit.normal, e, s)
        | exit j => cases h : Nat.beq j id with
          | true => simp only [h, cond_true]; exact fs_k (AExit.normal, e, s)
          | false => simp only [h, cond_false]; exact fs_k (AExit.exit j, e, s)
        | ret => exact fs_k (AExit.ret, e, s)
  | .loop b, e, s => loopN_fs (fun e s => exec_fs m g rd b e s) _ m _ s
  | .exit id, e, s => fs_k (AExit.exit id, e, s)
  | .scope b, e, s => exec_fs m g rd b e s
  | .label _, e, s => fs_k (AExit.normal, e, s)
  | .ret, e, s => fs_k (AExit.ret, e, s)
  | .rangeFunc h ps asg body, e, s => by
    simp only [exec]
    cases rd with
    | true => exact fs_const none
    | false =>
      simp only [cond_false]
      split
      · rename_i q l _
        cases (C.ext q).isSome with
        | true => exact fs_const none
        | false =>
          simp only [cond_false]
          exact (fs_bind (fs_cal true (some (.f q, .yld s.locs.length :: l)) (s.addLoc (.loop .ready none f (stripE (C.keep f (regionOf asg)) e) ps.toList asg body)) false) (Ψ := fun (p : Slot × St) (_ : CallFn) (k : KT → Res) => endK s.locs.length e p.2 (cur k)) (fun p => fs_endK _ _ _)).congr fun _ _ => rfl
      · exact fs_const none
  | .goto _, _, _ => fs_const none
  | .refuse _, _, _ => fs_const none

end

section
variable {C : Cfg} {f : FuncId}

theorem mono_cur {Φ : CallFn → K → Res} (h : Fs fun cl (k : KT → Res) => Φ cl (cur k)) {cl cl' : CallFn} {k k' : K} (hc : ∀ c l s, Le (cl c l s) (cl' c l s)) (hk : ∀ x e s, Le (k x e s) (k' x e s)) : Le (Φ cl k) (Φ cl' k') :=
  Fs.mono h (k := unc k) (k' := unc k') hc (fun p => hk p.1 p.2.1 p.2.2)

theorem loopN_mono {B B' : Env → St → K → Res} (hB : ∀ e s k k', (∀ x e s, Le (k x e s) (k' x e s)) → Le (B e s k) (B' e s k')) {ks : List Nat} : ∀ {n n' : Nat} (_ : n ≤ n') {e : Env} {s : St} {k k' : K}, (∀ x e s, Le (k x e s) (k' x e s)) → Le (loopN B ks n e s k) (loopN B' ks n' e s k')
  | 0, _, _, _, _, _, _, _ => Le.none _
  | n + 1, 0, h, _, _, _, _, _ => by omega
  | n + 1, n' + 1, h, e, s, k, k', hk => hB e s _ _ fun x e s => by
    cases x with
    | normal => exact loopN_mono hB (Nat.le_of_succ_le_succ h) hk
    | exit id => exact hk _ _ _
    | ret => exact hk _ _ _

theorem exec_mono {cl cl' : CallFn} {m m' : Nat} {g g' rd : Bool} (hc : ∀ c l s, Le (cl c l s) (cl' c l s)) (hm : m ≤ m') (hg : g = true → g' = true) :
    ∀ (c : Code) (e : Env) (s : St) (k k' : K), (∀ x e s, Le (k x e s) (k' x e s)) → Le (exec C cl m g rd f c e s k) (exec C cl' m' g' rd f c e s k')
  | .skip, e, s, k, k', hk => hk _ _ _
  | .region id ops draw, e, s, k, k', hk => mono_cur (Φ := fun cl k => exec C cl m g rd f (.region id ops draw) e s k) (exec_fs m g rd _ e s) hc hk
  | .seq a b, e, s, k, k', hk => exec_mono hc hm hg a e s _ _ fun x e s => by
    cases x with
    | normal =>
      simp only [cutK]
      cases C.cut f (regionOf b) with
      | none => exact exec_mono hc hm hg b e s k k' hk
      | some l =>
        cases g with
        | false => exact Le.none _
        | true => rw [hg rfl]; exact exec_mono hc hm (fun _ => rfl) b _ s k k' hk
    | exit id => exact hk _ _ _
    | ret => exact hk _ _ _
  | .cond c a b, e, s, k, k', hk => by
    simp only [exec, condS]
    cases (opnd C e c).bool? with
    | none => exact Le.none _
    | some t => cases t with
      | true => exact exec_mono hc hm hg a e s k k' hk
      | false => exact exec_mono hc hm hg b e s k k' hk
  | .block id b, e, s, k, k', hk => exec_mono hc hm hg b e s _ _ fun x e s => by
    cases x with
    | normal => exact hk _ _ _
    | exit j => cases h : Nat.beq j id with
      | true => simp only [h, cond_true]; exact hk _ _ _
      | false => simp only [h, cond_false]; exact hk _ _ _
    | ret => exact hk _ _ _
  | .loop b, e, s, k, k', hk => loopN_mono (fun e s k k' hk => exec_mono hc hm hg b e s k k' hk) hm hk
  | .exit id, e, s, k, k', hk => hk _ _ _
  | .scope b, e, s, k, k', hk => exec_mono hc hm hg b e s k k' hk
  | .label _, e, s, k, k', hk => hk _ _ _
  | .ret, e, s, k, k', hk => hk _ _ _
  | .rangeFunc h ps asg body, e, s, k, k', hk => mono_cur (Φ := fun cl k => exec C cl m g rd f (.rangeFunc h ps asg body) e s k) (exec_fs m g rd _ e s) hc hk
  | .goto _, _, _, _, _, _ => Le.none _
  | .refuse _, _, _, _, _, _ => Le.none _

theorem noPan_le {r r' : Res} (h : Le r r') : Le (noPan r) (noPan r') := fun x hx => by
  unfold noPan at hx
  split at hx
  · rw [h _ rfl]; exact hx
  · cases hx

theorem gate_mono {n m : Nat} (h : n ≤ m) (k : gate n = true) : gate m = true := by
  cases n with
  | zero => cases k
  | succ n => cases m with
    | zero => omega
    | succ m => rfl

theorem call_step : ∀ (n : Nat), (∀ c l s, Le (call C n c l s) (call C (n + 1) c l s))
  | 0, _, _, _ => Le.none _
  | n + 1, .f f, l, s => by
    simp only [call]
    cases C.ext f with
    | some g => exact Le.refl _
    | none =>
      simp only []
      cases C.code f with
      | none => exact Le.none _
      | some fn =>
        simp only []
        cases fn.body with
        | none => exact Le.none _
        | some b =>
          simp only []
          cases Nat.ble l.length fn.ntmps with
          | false => exact Le.none _
          | true => exact exec_mono (call_step n) (Nat.le_succ n) (gate_mono (Nat.le_succ n)) b _ _ _ _ fun _ _ _ => Le.refl _
  | n + 1, .y loc, l, s => by
    simp only [call]
    split
    · split
      · refine noPan_le (exec_mono (call_step n) (Nat.le_succ n) (gate_mono (Nat.le_succ n)) _ _ _ _ _ fun x e s => ?_)
        cases x with
        | normal =>
          simp only []
          cases beginL loc s with
          | none => exact Le.none _
          | some s1 => exact exec_mono (call_step n) (Nat.le_succ n) (gate_mono (Nat.le_succ n)) _ _ _ _ _ fun _ _ _ => Le.refl _
        | exit id => exact Le.none _
        | ret => exact Le.none _
      · exact Le.none _
    · exact Le.none _

def Chain (r : Nat → Res) : Prop := ∀ n m, n ≤ m → Le (r n) (r m)

theorem chain_of_step {r : Nat → Res} (h : ∀ n, Le (r n) (r (n + 1))) : Chain r := fun n m hnm => by
  induction hnm with
  | refl => exact Le.refl _
  | step _ ih => exact ih.trans (h _)

theorem call_chain (c : Callee) (l : List AV) (s : St) : Chain fun n => call C n c l s := chain_of_step fun n => call_step n c l s

open Classical in
noncomputable def lim (r : Nat → Res) : Res := if h : ∃ n x, r n = some x then r (Classical.choose h) else none

theorem lim_some {r : Nat → Res} (h : Chain r) {x : Out × St} : lim r = some x ↔ ∃ n, r n = some x := by
  unfold lim
  constructor
  · intro hx
    split at hx
    · exact ⟨_, hx⟩
    · cases hx
  · rintro ⟨n, hn⟩
    have hex : ∃ n x, r n = some x := ⟨n, x, hn⟩
    rw [dif_pos hex]
    obtain ⟨y, hy⟩ := Classical.choose_spec hex
    rw [hy]
    rcases Nat.le_total n (Classical.choose hex) with hle | hle
    · have := h _ _ hle x hn; rw [hy] at this; exact this
    · have := h _ _ hle y hy; rw [hn] at this; exact this.symm

theorem res_ext {a b : Res} (h : ∀ x, a = some x ↔ b = some x) : a = b := by
  cases a with
  | none => cases b with
    | none => rfl
    | some y => exact ((h y).2 rfl)
  | some x => exact ((h x).1 rfl).symm

theorem lim_congr {r r' : Nat → Res} (h : Chain r) (h' : Chain r') (k : ∀ x, (∃ n, r n = some x) ↔ ∃ n, r' n = some x) : lim r = lim r' :=
  res_ext fun x => by rw [lim_some h, lim_some h']; exact k x

theorem lim_const {r : Res} : lim (fun _ => r) = r := res_ext fun x => by rw [lim_some fun _ _ _ => Le.refl _]; exact ⟨fun ⟨_, h⟩ => h, fun h => ⟨0, h⟩⟩

theorem lim_succ {r : Nat → Res} (h : Chain r) : lim (fun n => r (n + 1)) = lim r :=
  lim_congr (fun n m k => h _ _ (Nat.succ_le_succ k)) h fun x => ⟨fun ⟨n, hn⟩ => ⟨n + 1, hn⟩, fun ⟨n, hn⟩ => ⟨n, h _ _ (Nat.le_succ n) x hn⟩⟩

theorem le_lim {r : Nat → Res} (h : Chain r) (n : Nat) : Le (r n) (lim r) := fun x hx => (lim_some h).2 ⟨n, hx⟩

/-- a limit outside, and one within -/
theorem lim_cont {α : Type} {Φ : Nat → CallFn → (α → Res) → Res} (hf : ∀ n, Fs (Φ n)) {cl : Nat → CallFn} {k : Nat → α → Res} (hc : ∀ c l s, Chain fun n => cl n c l s) (hk : ∀ a, Chain fun n => k n a)
    (hΦ : ∀ n m, n ≤ m → ∀ cl k, Le (Φ n cl k) (Φ m cl k)) {cl' : CallFn} {k' : α → Res} (ec : ∀ c l s, cl' c l s = lim fun n => cl n c l s) (ek : ∀ a, k' a = lim fun n => k n a) :
    (lim fun n => Φ n (cl n) (k n)) = lim fun n => Φ n cl' k' := by
  refine lim_congr (fun n m h => ((hf n).mono (fun c l s => hc c l s n m h) (fun a => hk a n m h)).trans (hΦ n m h _ _)) (fun n m h => hΦ n m h _ _) fun x => ⟨fun ⟨n, hn⟩ => ⟨n, ?_⟩, fun ⟨n, hn⟩ => ?_⟩
  · exact (hf n).mono (fun c l s => by rw [ec]; exact le_lim (hc c l s) n) (fun a => by rw [ek]; exact le_lim (hk a) n) x hn
  · obtain ⟨Lc, Lk, h1⟩ := hf n _ _ x hn
    have bc : ∀ L : List (Callee × List AV × St), ∃ m, ∀ p ∈ L, Le (cl' p.1 p.2.1 p.2.2) (cl m p.1 p.2.1 p.2.2) := by
      intro L
      induction L with
      | nil => exact ⟨0, fun p hp => by cases hp⟩
      | cons p L ih =>
        obtain ⟨m, hm⟩ := ih
        have : ∃ m', Le (cl' p.1 p.2.1 p.2.2) (cl m' p.1 p.2.1 p.2.2) := by
          cases hy : cl' p.1 p.2.1 p.2.2 with
          | none => exact ⟨0, Le.none _⟩
          | some y =>
            rw [ec] at hy
            obtain ⟨m', h'⟩ := (lim_some (hc _ _ _)).1 hy
            exact ⟨m', fun z hz => by rw [← hz]; exact h'⟩
        obtain ⟨m', hm'⟩ := this
        refine ⟨max m m', fun q hq => ?_⟩
        rcases List.mem_cons.1 hq with rfl | hq
        · exact hm'.trans (hc _ _ _ _ _ (Nat.le_max_right _ _))
        · exact (hm q hq).trans (hc _ _ _ _ _ (Nat.le_max_left _ _))
    have bk : ∀ L : List α, ∃ m, ∀ a ∈ L, Le (k' a) (k m a) := by
      intro L
      induction L with
      | nil => exact ⟨0, fun p hp => by cases hp⟩
      | cons p L ih =>
        obtain ⟨m, hm⟩ := ih
        have : ∃ m', Le (k' p) (k m' p) := by
          cases hy : k' p with
          | none => exact ⟨0, Le.none _⟩
          | some y =>
            rw [ek] at hy
            obtain ⟨m', h'⟩ := (lim_some (hk _)).1 hy
            exact ⟨m', fun z hz => by rw [← hz]; exact h'⟩
        obtain ⟨m', hm'⟩ := this
        refine ⟨max m m', fun q hq => ?_⟩
        rcases List.mem_cons.1 hq with rfl | hq
        · exact hm'.trans (hk _ _ _ (Nat.le_max_right _ _))
        · exact (hm q hq).trans (hk _ _ _ (Nat.le_max_left _ _))
    obtain ⟨m1, hm1⟩ := bc Lc
    obtain ⟨m2, hm2⟩ := bk Lk
    refine ⟨max n (max m1 m2), hΦ n _ (Nat.le_max_left _ _) _ _ x (h1 _ _ (fun p hp => (hm1 p hp).trans (hc _ _ _ _ _ ?_)) (fun a ha => (hm2 a ha).trans (hk _ _ _ ?_)))⟩ <;> omega

/-- what a call comes to -/
noncomputable def callw (C : Cfg) : CallFn := fun c l s => lim fun n => call C n c l s

/-- what a loop comes to -/
noncomputable def loopw (C : Cfg) (rd : Bool) (f : FuncId) (b : Code) : Env → St → K → Res := fun e s k => lim fun n => loopN (fun e s k => exec C (call C n) n (gate n) rd f b e s k) (C.keep f (regionOf b)) n e s k

/-- a door at which reckoning stands still -/
noncomputable def pw (r : Res) : Res := lim fun _ => r
theorem pw_eq (r : Res) : pw r = r := lim_const

noncomputable def cutR (ks : Option (List Nat)) (body : Env → St → K → Res) (e : Env) (s : St) (k : K) : Res :=
  match ks with
  | some l => pw (body (keepE l e) s k)
  | none => body e s k

/-- code, without fuel -/
noncomputable def run (C : Cfg) (rd : Bool) (f : FuncId) : Code → Env → St → K → Res
  | .skip, e, s, k => k .normal e s
  | .region id ops draw, e, s, k => opsK C (callw C) draw (bif draw then (C.draws f id).1 else false) f ops.toList ops.toList (C.draws f id).2 e s (fun e s => k .normal e s)
  | .seq a b, e, s, k => run C rd f a e s (fun x e s => match x with
    | .normal => cutR (C.cut f (regionOf b)) (fun e s k => run C rd f b e s k) e s k
    | x => k x e s)
  | .cond c a b, e, s, k => condS (opnd C e c) (run C rd f a e s k) (run C rd f b e s k)
  | .block id b, e, s, k => run C rd f b e s (fun x e s => match x with
    | .exit j => bif Nat.beq j id then k .normal e s else k (.exit j) e s
    | x => k x e s)
  | .loop b, e, s, k => loopw C rd f b (keepE (C.keep f (regionOf b)) e) s k
  | .exit id, e, s, k => k (.exit id) e s
  | .scope b, e, s, k => run C rd f b e s k
  | .label _, e, s, k => k .normal e s
  | .ret, e, s, k => k .ret e s
  | .rangeFunc h ps asg body, e, s, k => bif rd then none else match tgtV (opnd C e h) [] with
    | some (.f g, l) => bif (C.ext g).isSome then none else back (callw C (.f g) (.yld s.locs.length :: l) (s.addLoc (.loop .ready none f (stripE (C.keep f (regionOf asg)) e) ps.toList asg body))) (fun _ s1 => endK s.locs.length e s1 k)
    | _ => none
  | _, _, _, _ => none

theorem exec_chain {rd : Bool} (c : Code) (e : Env) (s : St) {k : Nat → K} (hk : ∀ x e s, Chain fun n => k n x e s) : Chain fun n => exec C (call C n) n (gate n) rd f c e s (k n) :=
  fun n m h => exec_mono (fun c l s => call_chain c l s n m h) h (gate_mono h) c e s _ _ fun x e s => hk x e s n m h

theorem chain_const (r : Res) : Chain fun _ => r := fun _ _ _ => Le.refl _

theorem gate_succ (n : Nat) : gate (n + 1) = true := rfl

theorem lim_exec {rd : Bool} (c : Code) (e : Env) (s : St) {k : Nat → K} {k' : K} (hk : ∀ x e s, Chain fun n => k n x e s) (ek : ∀ x e s, k' x e s = lim fun n => k n x e s) :
    (lim fun n => exec C (call C n) n (gate n) rd f c e s (k n)) = lim fun n => exec C (call C n) n (gate n) rd f c e s k' := by
  have := lim_cont (Φ := fun n (_ : CallFn) (k : KT → Res) => exec C (call C n) n (gate n) rd f c e s (cur k)) (cl := fun _ _ _ _ => none) (cl' := fun _ _ _ => none) (k := fun n => unc (k n)) (k' := unc k')
    (fun n => by
      intro cl k x hx
      obtain ⟨Lc, Lk, h1⟩ := exec_fs (C := C) (f := f) n (gate n) rd c e s (call C n) k x hx
      exact ⟨[], Lk, fun _ k' _ hk => h1 (call C n) k' (fun _ _ => Le.refl _) hk⟩)
    (fun _ _ _ => chain_const none) (fun a => hk a.1 a.2.1 a.2.2) (fun n m h _ k => exec_mono (fun c l s => call_chain c l s n m h) h (gate_mono h) c e s _ _ fun _ _ _ => Le.refl _)
    (fun _ _ _ => lim_const.symm) (fun a => ek a.1 a.2.1 a.2.2)
  exact this

theorem run_lim {rd : Bool} : ∀ (c : Code) (e : Env) (s : St) (k : K), (lim fun n => exec C (call C n) n (gate n) rd f c e s k) = run C rd f c e s k
  | .skip, _, _, _ => lim_const
  | .region id ops draw, e, s, k => by
    have := lim_cont (Φ := fun _ cl (k : Env × St → Res) => opsK C cl draw (bif draw then (C.draws f id).1 else false) f ops.toList ops.toList (C.draws f id).2 e s fun e s => k (e, s)) (cl := fun n => call C n) (cl' := callw C)
      (k := fun _ p => k .normal p.1 p.2) (k' := fun p => k .normal p.1 p.2) (fun _ => opsK_fs _ _ _ _) call_chain (fun _ => chain_const _) (fun _ _ _ _ _ => Le.refl _) (fun _ _ _ => rfl) (fun _ => lim_const.symm)
    exact this.trans lim_const
  | .seq a b, e, s, k => by
    refine (lim_exec a e s (k := fun n x e s => match x with
      | .normal => cutK (gate n) (C.cut f (regionOf b)) (fun e s k => exec C (call C n) n (gate n) rd f b e s k) e s k
      | x => k x e s) (k' := fun x e s => match x with
      | .normal => cutR (C.cut f (regionOf b)) (fun e s k => run C rd f b e s k) e s k
      | x => k x e s) ?_ ?_).trans (run_lim a e s _)
    · intro x e s
      cases x with
      | normal =>
        simp only [cutK]
        cases C.cut f (regionOf b) with
        | none => exact exec_chain b e s fun _ _ _ => chain_const _
        | some l =>
          intro n m h
          show Le (cutN (gate n) _ _ _ _) (cutN (gate m) _ _ _ _)
          unfold cutN
          cases hg : gate n with
          | false => exact Le.none _
          | true =>
            rw [gate_mono h hg]
            have := exec_chain (C := C) (f := f) (rd := rd) b (keepE l e) s (k := fun _ => k) (fun _ _ _ => chain_const _) n m h
            simp only [hg, gate_mono h hg] at this
            exact this
      | exit id => exact chain_const _
      | ret => exact chain_const _
    · intro x e s
      cases x with
      | normal =>
        simp only [cutK, cutR]
        cases C.cut f (regionOf b) with
        | none => exact (run_lim b e s k).symm
        | some l =>
          simp only []
          rw [pw_eq, ← run_lim b (keepE l e) s k]
          refine lim_congr (exec_chain b _ s fun _ _ _ => chain_const _) ?_ fun x => ⟨fun ⟨n, hn⟩ => ⟨n + 1, ?_⟩, fun ⟨n, hn⟩ => ⟨n, ?_⟩⟩
          · intro n m h
            show Le (cutN (gate n) _ _ _ _) (cutN (gate m) _ _ _ _)
            unfold cutN
            cases hg : gate n with
            | false => exact Le.none _
            | true =>
              rw [gate_mono h hg]
              have := exec_chain (C := C) (f := f) (rd := rd) b (keepE l e) s (k := fun _ => k) (fun _ _ _ => chain_const _) n m h
              simp only [hg, gate_mono h hg] at this
              exact this
          · exact exec_chain (C := C) (f := f) (rd := rd) b (keepE l e) s (k := fun _ => k) (fun _ _ _ => chain_const _) n (n + 1) (Nat.le_succ n) x hn
          · unfold cutN at hn
            cases hg : gate n with
            | false => rw [hg] at hn; cases hn
            | true => rw [hg] at hn; exact hn
      | exit id => exact lim_const.symm
      | ret => exact lim_const.symm
  | .cond c a b, e, s, k => by
    simp only [exec, run, condS]
    cases (opnd C e c).bool? with
    | none => exact lim_const
    | some t => cases t with
      | true => exact run_lim a e s k
      | false => exact run_lim b e s k
  | .block id b, e, s, k => run_lim b e s _
  | .loop b, e, s, k => rfl
  | .exit id, _, _, _ => lim_const
  | .scope b, e, s, k => run_lim b e s k
  | .label _, _, _, _ => lim_const
  | .ret, _, _, _ => lim_const
  | .rangeFunc h ps asg body, e, s, k => by
    simp only [exec, run]
    generalize tgtV (opnd C e h) [] = t
    cases rd with
    | true => exact lim_const
    | false =>
      simp only [cond_false]
      rcases t with _ | ⟨c, l⟩
      · exact lim_const
      · cases c with
        | y _ => exact lim_const
        | f q =>
          simp only []
          cases (C.ext q).isSome with
          | true => exact lim_const
          | false =>
            simp only [cond_false]
            have := lim_cont (Φ := fun _ cl (k : KT → Res) => back (cl (.f q) (.yld s.locs.length :: l) (s.addLoc (.loop .ready none f (stripE (C.keep f (regionOf asg)) e) ps.toList asg body))) fun _ s1 => endK s.locs.length e s1 (cur k)) (cl := fun n => call C n) (cl' := callw C) (k := fun _ => unc k) (k' := unc k)
              (fun _ => (fs_bind (fs_cal true (some (.f q, .yld s.locs.length :: l)) (s.addLoc (.loop .ready none f (stripE (C.keep f (regionOf asg)) e) ps.toList asg body)) false) (Ψ := fun (p : Slot × St) (_ : CallFn) (k : KT → Res) => endK s.locs.length e p.2 (cur k)) (fun p => fs_endK _ _ _)).congr fun _ _ => rfl)
              call_chain (fun _ => chain_const _) (fun _ _ _ _ _ => Le.refl _) (fun _ _ _ => rfl) (fun _ => lim_const.symm)
            exact this.trans lim_const
  | .goto _, _, _, _ => lim_const
  | .refuse _, _, _, _ => lim_const

/-- A LOOP, ROUND BY ROUND -/
theorem loopw_eq (rd : Bool) (b : Code) (e : Env) (s : St) (k : K) : loopw C rd f b e s k = run C rd f b e s (fun x e s => match x with
    | .normal => loopw C rd f b (keepE (C.keep f (regionOf b)) e) s k
    | x => k x e s) := by
  have hL : ∀ (j j' n m : Nat), j ≤ j' → n ≤ m → ∀ e s, Le (loopN (fun e s k => exec C (call C n) n (gate n) rd f b e s k) (C.keep f (regionOf b)) j e s k) (loopN (fun e s k => exec C (call C m) m (gate m) rd f b e s k) (C.keep f (regionOf b)) j' e s k) :=
    fun j j' n m hj hn e s => loopN_mono (fun e s k k' hk => exec_mono (fun c l s => call_chain c l s n m hn) hn (gate_mono hn) b e s k k' hk) hj fun _ _ _ => Le.refl _
  have e1 : loopw C rd f b e s k = lim fun n => loopN (fun e s k => exec C (call C n) n (gate n) rd f b e s k) (C.keep f (regionOf b)) (n + 1) e s k :=
    lim_congr (fun n m h => hL _ _ _ _ h h _ _) (fun n m h => hL _ _ _ _ (Nat.succ_le_succ h) h _ _) fun x => ⟨fun ⟨n, hn⟩ => ⟨n, hL _ _ _ _ (Nat.le_succ n) (Nat.le_refl n) _ _ x hn⟩, fun ⟨n, hn⟩ => ⟨n + 1, hL _ _ _ _ (Nat.le_refl _) (Nat.le_succ n) _ _ x hn⟩⟩
  rw [e1]
  exact (lim_exec b e s (k := fun n x e s => match x with
    | .normal => loopN (fun e s k => exec C (call C n) n (gate n) rd f b e s k) (C.keep f (regionOf b)) n (keepE (C.keep f (regionOf b)) e) s k
    | x => k x e s) (k' := fun x e s => match x with
    | .normal => loopw C rd f b (keepE (C.keep f (regionOf b)) e) s k
    | x => k x e s) (fun x e s => by
      cases x with
      | normal => exact fun n m h => hL _ _ _ _ h h _ _
      | exit id => exact chain_const _
      | ret => exact chain_const _) (fun x e s => by
      cases x with
      | normal => rfl
      | exit id => exact lim_const.symm
      | ret => exact lim_const.symm)).trans (run_lim b e s _)

/-- a call's right side -/
noncomputable def callR (C : Cfg) (f : FuncId) (l : List AV) (s : St) : Res :=
  match C.ext f with
  | some g => (match g l with | some v => some (.ret (.val v), s) | none => none)
  | none => match C.code f with
    | some fn => match fn.body with
      | some b => bif Nat.ble l.length fn.ntmps then run C false f b (argE 0 l) s (outK C fn.results.toList) else none
      | none => none
    | none => none

theorem callw_f (f : FuncId) (l : List AV) (s : St) : callw C (.f f) l s = callR C f l s := by
  unfold callw
  rw [← lim_succ (call_chain _ _ _)]
  simp only [call, callR]
  cases C.ext f with
  | some g => exact lim_const
  | none =>
    simp only []
    cases C.code f with
    | none => exact lim_const
    | some fn =>
      simp only []
      cases fn.body with
      | none => exact lim_const
      | some b =>
        simp only []
        cases Nat.ble l.length fn.ntmps with
        | false => exact lim_const
        | true => exact run_lim b _ _ _

theorem lim_noPan {r : Nat → Res} (h : Chain r) : (lim fun n => noPan (r n)) = noPan (lim r) := res_ext fun x => by
  rw [lim_some fun n m hnm => noPan_le (h n m hnm)]
  constructor
  · rintro ⟨n, hn⟩
    unfold noPan at hn
    split at hn
    · rename_i v s1 hv
      cases hn
      rw [(lim_some h).2 ⟨n, hv⟩]
      rfl
    · cases hn
  · intro hx
    unfold noPan at hx
    split at hx
    · rename_i v s1 hv
      cases hx
      obtain ⟨n, hn⟩ := (lim_some h).1 hv
      exact ⟨n, by rw [hn]; rfl⟩
    · cases hx

theorem callw_y (loc : Nat) (l : List AV) (s : St) : callw C (.y loc) l s = match s.locs[loc]? with
    | some (.loop .ready none f e ps asg body) => match setPs ps l e with
      | some e => noPan (run C true f asg e s (fun x e s => match x with
        | .normal => bindS (beginL loc s) (fun s => run C true f body e s (roundK loc))
        | _ => none))
      | none => none
    | _ => none := by
  unfold callw
  rw [← lim_succ (call_chain _ _ _)]
  simp only [call]
  generalize s.locs[loc]? = o
  rcases o with _ | o
  · exact lim_const
  · cases o with
    | var _ => exact lim_const
    | map _ _ => exact lim_const
    | dead => exact lim_const
    | loop st pend f e ps asg body =>
      cases st <;> try exact lim_const
      cases pend with
      | some _ => exact lim_const
      | none =>
        simp only []
        generalize setPs ps l e = o1
        cases o1 with
        | none => exact lim_const
        | some e1 =>
          simp only []
          have hk : ∀ x e s, Chain fun n => (match (generalizing := false) x with
            | AExit.normal => bindS (beginL loc s) (fun s => exec C (call C n) n (gate n) true f body e s (roundK loc))
            | _ => none : Res) := fun x e s => by
            cases x with
            | normal =>
              simp only []
              cases beginL loc s with
              | none => exact chain_const none
              | some s1 => exact exec_chain body e s1 fun _ _ _ => chain_const _
            | exit id => exact chain_const none
            | ret => exact chain_const none
          refine (lim_noPan (exec_chain asg e1 s hk)).trans ?_
          congr 1
          refine (lim_exec asg e1 s hk (k' := fun x e s => match (generalizing := false) x with
            | .normal => bindS (beginL loc s) (fun s => run C true f body e s (roundK loc))
            | _ => none) fun x e s => ?_).trans (run_lim asg e1 s _)
          cases x with
          | normal =>
            simp only []
            cases beginL loc s with
            | none => exact lim_const.symm
            | some s1 => exact (run_lim body e s1 _).symm
          | exit id => exact lim_const.symm
          | ret => exact lim_const.symm

/-- a round's right side -/
noncomputable def yldR (C : Cfg) (o : Obj) (loc : Nat) (l : List AV) (s : St) : Res :=
  match o with
  | .loop .ready none f e ps asg body => match setPs ps l e with
    | some e => noPan (run C true f asg e s (fun x e s => match x with
      | .normal => bindS (beginL loc s) (fun s => run C true f body e s (roundK loc))
      | _ => none))
    | none => none
  | _ => none

theorem callw_yld {loc : Nat} {l : List AV} {s : St} {o : Obj} (h : s.locs[loc]? = some o) : callw C (.y loc) l s = yldR C o loc l s := by
  rw [callw_y, h]
  cases o with
  | loop st pend f e ps asg body => cases st <;> first | rfl | (cases pend <;> rfl)
  | _ => rfl

def rngAsg : Code → Code
  | .rangeFunc _ _ a _ => a
  | c => c
def rngBody : Code → Code
  | .rangeFunc _ _ _ b => b
  | c => c

def rangeC (C : Cfg) (cl : CallFn) (h : Slot) (loc : Nat) (s : St) (k : St → Res) : Res :=
  match tgtV h [] with
  | some (.f g, l) => bif (C.ext g).isSome then none else back (cl (.f g) (.yld loc :: l) s) (fun _ s1 => k s1)
  | _ => none

theorem callw_some {c : Callee} {l : List AV} {s : St} {x : Out × St} : callw C c l s = some x ↔ ∃ n, call C n c l s = some x := lim_some (call_chain c l s)

/-! ### places, without fuel -/

/-- what is done behind a place -/
noncomputable def ctxR (C : Cfg) (rd : Bool) (f : FuncId) : List Step → Code → K → K
  | [], _, k => k
  | .seqL :: p, .seq a b, k => ctxR C rd f p a (fun x e s => match x with
    | .normal => cutR (C.cut f (regionOf b)) (fun e s k => run C rd f b e s k) e s k
    | x => k x e s)
  | .seqR :: p, .seq _ b, k => ctxR C rd f p b k
  | .thn :: p, .cond _ a _, k => ctxR C rd f p a k
  | .els :: p, .cond _ _ b, k => ctxR C rd f p b k
  | .block :: p, .block id b, k => ctxR C rd f p b (fun x e s => match x with
    | .exit j => bif Nat.beq j id then k .normal e s else k (.exit j) e s
    | x => k x e s)
  | .loop :: p, .loop b, k => ctxR C rd f p b (fun x e s => match x with
    | .normal => loopw C rd f b (keepE (C.keep f (regionOf b)) e) s k
    | x => k x e s)
  | .scope :: p, .scope b, k => ctxR C rd f p b k
  | _ :: _, _, k => k

/-- the loop at a place -/
noncomputable def loopR (C : Cfg) (rd : Bool) (f : FuncId) (p : List Step) (c : Code) (e : Env) (s : St) (k : K) : Res :=
  match codeAt p c with
  | .loop b => loopw C rd f b e s k
  | _ => none

/-- one round of it -/
noncomputable def roundR (C : Cfg) (rd : Bool) (f : FuncId) (p : List Step) (c : Code) (e : Env) (s : St) (k : K) : Res :=
  match codeAt p c with
  | .loop b => run C rd f b e s (fun x e s => match x with
    | .normal => loopw C rd f b (keepE (C.keep f (regionOf b)) e) s k
    | x => k x e s)
  | _ => none

theorem loopR_eq (rd : Bool) (p : List Step) (c : Code) (e : Env) (s : St) (k : K) : loopR C rd f p c e s k = roundR C rd f p c e s k := by
  unfold loopR roundR
  split
  · exact loopw_eq _ _ _ _ _
  · rfl

end
end Go.Am
