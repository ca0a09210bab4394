/- What an operation looks at, and what it turns: for regions that draw their order. -/
import Derived.Test.YtemfpnlpnmglfaaA15
set_option linter.unusedVariables false
set_option linter.unusedSimpArgs false
namespace Go.Am
open Go Go.RowKit

def agree (l : List Nat) (e e' : Env) : Prop := ∀ i ∈ l, e.get i = e'.get i

section
variable {C : Cfg} {e e' : Env} {s s' : St} {cl : CallFn}

theorem agree.mono {l m : List Nat} (h : agree m e e') (k : ∀ i ∈ l, i ∈ m) : agree l e e' := fun i hi => h i (k i hi)

theorem ent_agree {op : Op} (h : agree (tmpsOf op) e e') {x : Operand} (hx : x ∈ op.operands.toList) : ent C e x = ent C e' x := by
  cases x with
  | tmp t =>
    have : e.get t = e'.get t := h t (List.mem_filterMap.2 ⟨.tmp t, hx, rfl⟩)
    simpa only [ent] using this
  | const v => rfl
  | global g => rfl
  | func f => rfl

theorem opnd_agree {op : Op} (h : agree (tmpsOf op) e e') {x : Operand} (hx : x ∈ op.operands.toList) : opnd C e x = opnd C e' x := by
  cases x with
  | tmp t =>
    have : e.get t = e'.get t := h t (List.mem_filterMap.2 ⟨.tmp t, hx, rfl⟩)
    simp only [opnd, this]
  | const v => rfl
  | global g => rfl
  | func f => rfl

theorem map_agree {op : Op} (h : agree (tmpsOf op) e e') {l : List Operand} (hl : ∀ x ∈ l, x ∈ op.operands.toList) : l.map (opnd C e) = l.map (opnd C e') :=
  List.map_congr_left fun x hx => opnd_agree h (hl x hx)

theorem places_agree {op : Op} (h : agree (tmpsOf op) e e') (t : TI) : ∀ {l : List (Nat × Operand)}, (∀ p ∈ l, p.2 ∈ op.operands.toList) → places C e t l = places C e' t l
  | [], _ => rfl
  | (i, x) :: r, hl => by
    simp only [places]
    rw [places_agree h t (l := r) (fun p hp => hl p (List.mem_cons_of_mem _ hp)), opnd_agree h (hl (i, x) List.mem_cons_self)]

theorem omap_agree {op : Op} (h : agree (tmpsOf op) e e') {x : Option Operand} (hx : ∀ y, x = some y → y ∈ op.operands.toList) : x.map (opnd C e) = x.map (opnd C e') := by
  cases x with
  | none => rfl
  | some y => simp only [Option.map_some, opnd_agree h (hx y rfl)]

theorem pureS_agree {op : Op} (h : agree (tmpsOf op) e e') : pureS C e op = pureS C e' op := by
  have ho := fun x hx => opnd_agree (C := C) h (x := x) hx
  cases op <;> try rfl
  case pick c x y => simp only [pureS, ho c (by simp [Op.operands]), ho x (by simp [Op.operands]), ho y (by simp [Op.operands])]
  case build t ps => simp only [pureS, places_agree h (C.ti t) (l := ps.toList) (fun p hp => by simp only [Op.operands, List.mem_map]; exact ⟨p, hp, rfl⟩)]
  case buildSlice t n ps =>
    have : (ps.toList.map fun p => opnd C e p.2) = ps.toList.map fun p => opnd C e' p.2 := List.map_congr_left fun p hp => ho p.2 (by simp only [Op.operands, List.mem_map]; exact ⟨p, hp, rfl⟩)
    simp only [pureS, this]
  case binOp op t x y z => simp only [pureS, ho x (by simp [Op.operands]), ho y (by simp [Op.operands])]
  case unOp op t x => simp only [pureS, ho x (by simp [Op.operands])]
  case convert a b x => simp only [pureS, ho x (by simp [Op.operands])]
  case makeInterface t x => simp only [pureS, ho x (by simp [Op.operands])]
  case makeFunc fn first cap =>
    cases fn <;> try rfl
    simp only [pureS, map_agree h (l := cap.toList) (fun x hx => by simp only [Op.operands, Array.toList_append, List.mem_append]; exact .inr hx)]
  case slice t x lo hi mx =>
    simp only [pureS, ho x (by simp [Op.operands]), omap_agree h (x := lo) (fun y hy => by subst hy; simp [Op.operands]), omap_agree h (x := hi) (fun y hy => by subst hy; simp [Op.operands]), omap_agree h (x := mx) (fun y hy => by subst hy; simp [Op.operands])]
  case field t x f => simp only [pureS, ho x (by simp [Op.operands])]
  case indexAddr t x i => simp only [pureS, ho x (by simp [Op.operands]), ho i (by simp [Op.operands])]
  case index t x i => simp only [pureS, ho x (by simp [Op.operands]), ho i (by simp [Op.operands])]
  case extract x i => simp only [pureS, ho x (by simp [Op.operands])]
  case call c =>
    obtain ⟨cal, as, ts⟩ := c
    have hm : ∀ x ∈ as.toList, x ∈ (Op.call { callee := cal, args := as, argTypes := ts }).operands.toList := fun x hx => by
      simp only [Op.operands, Call.operands]
      cases cal <;> simp_all
    cases cal with
    | builtin b =>
      cases b <;> try rfl
      case len =>
        simp only [pureS]
        split
        · rename_i x t hx _; rw [ho x (hm x (by rw [hx]; simp))]
        · rfl
      case max =>
        simp only [pureS]
        split
        · rename_i x y hx; rw [ho x (hm x (by rw [hx]; simp)), ho y (hm y (by rw [hx]; simp))]
        · rename_i x y z hx; rw [ho x (hm x (by rw [hx]; simp)), ho y (hm y (by rw [hx]; simp)), ho z (hm z (by rw [hx]; simp))]
        · rfl
      case min =>
        simp only [pureS]
        split
        · rename_i x y hx; rw [ho x (hm x (by rw [hx]; simp)), ho y (hm y (by rw [hx]; simp))]
        · rfl
    | invoke r n => rfl
    | value g => rfl

theorem pureK_agree {op : Op} (h : agree (tmpsOf op) e e') (w : Bool) (k : Ent → Res) : pureK C e w op k = pureK C e' w op k := by
  have hp := pureS_agree (C := C) h
  cases op <;> first
    | (simp only [pureK, hp]; done)
    | skip
  case move x => simp only [pureK, opnd_agree h (x := x) (by simp [Op.operands])]
  case assign x => simp only [pureK, opnd_agree h (x := x) (by simp [Op.operands])]
  case nilCheck x => simp only [pureK, ent_agree h (x := x) (by simp [Op.operands])]
  case fieldAddr t x f => simp only [pureK, ent_agree h (x := x) (by simp [Op.operands])]

/-- a step that goes on in one way, if in any -/
def Det {α : Type} (m : (α → Res) → Res) : Prop := (∀ k, m k = none) ∨ ∃ x, ∀ k, m k = k x

theorem det_bind1 (r : Option Slot) (g : Slot → Ent) : Det fun k => bind1 r fun v => k (g v) := by
  cases r with
  | none => exact .inl fun _ => rfl
  | some v => exact .inr ⟨g v, fun _ => rfl⟩

theorem det_chkP (a b : Bool) (x : Ent) : Det fun k => chkP a b fun _ => k x := by
  unfold chkP
  cases a || !b with
  | false => exact .inl fun _ => rfl
  | true => exact .inr ⟨x, fun _ => rfl⟩

theorem Det.congr {α : Type} {m m' : (α → Res) → Res} (d : Det m') (h : ∀ k, m k = m' k) : Det m := by
  rcases d with d | ⟨x, d⟩
  · exact .inl fun k => (h k).trans (d k)
  · exact .inr ⟨x, fun k => (h k).trans (d k)⟩

theorem pureK_det (op : Op) (w : Bool) : Det (pureK C e w op) := by
  cases op <;> try exact det_bind1 _ .s
  case move x => exact .inr ⟨_, fun _ => rfl⟩
  case assign x => exact .inr ⟨_, fun _ => rfl⟩
  case nilCheck x =>
    cases hx : ent C e x with
    | none => exact .inl fun k => by simp only [pureK, hx]
    | s v => exact (det_bind1 (gd w (nilCheckV v)) .s).congr fun k => by simp only [pureK, hx]
    | var c => exact .inl fun k => by simp only [pureK, hx]
    | ptr g d o => exact (det_chkP g w (.ptr (g && w) d o)).congr fun k => by simp only [pureK, hx]
  case fieldAddr t x f =>
    cases hf : structField (C.ti t) f with
    | none => exact .inl fun k => by simp only [pureK, hf]
    | some p =>
      obtain ⟨off, ft⟩ := p
      cases hz : Nat.beq (C.ti ft).size 0 with
      | true => exact .inl fun k => by simp only [pureK, hf, hz, cond_true]
      | false =>
        cases hx : ent C e x with
        | none => exact .inl fun k => by simp only [pureK, hf, hz, cond_false, faK, hx]
        | s v => exact (det_bind1 (gd w (faV off v)) .s).congr fun k => by simp only [pureK, hf, hz, cond_false, faK, hx]
        | var c =>
          cases ht : Operand.tmp? x with
          | none => exact .inl fun k => by simp only [pureK, hf, hz, cond_false, faK, hx, ht]
          | some d => exact .inr ⟨.ptr w d off, fun k => by simp only [pureK, hf, hz, cond_false, faK, hx, ht]⟩
        | ptr g d o => exact (det_chkP g w (.ptr (g && w) d (o + off))).congr fun k => by simp only [pureK, hf, hz, cond_false, faK, hx]

/-! ### reading -/

theorem ldS_agree {t : TI} {r : Bool} {rt : Option Nat} {x : Operand} {ty : TypeId} (h : agree (tmpsOf (.load ty x)) e e') (hr : agree rt.toList e e') : ldS t r (rootOf true [rt]) (Operand.tmp? x) e s (ent C e x) = ldS t r (rootOf true [rt]) (Operand.tmp? x) e' s (ent C e' x) := by
  rw [ent_agree h (x := x) (by simp [Op.operands])]
  unfold ldS
  cases hok : rootOk (rootOf true [rt]) (Operand.tmp? x) (ent C e' x) with
  | false => rfl
  | true =>
    simp only [cond_true]
    cases hx : ent C e' x with
    | none => rfl
    | s v => rfl
    | var c => rfl
    | ptr g d o =>
      simp only []
      rw [hx] at hok
      cases rt with
      | none => simp [rootOf, rootOk] at hok
      | some n =>
        simp only [rootOf, cond_true, rootOk] at hok
        have := Nat.eq_of_beq_eq_true hok
        subst this
        rw [hr d (by simp)]

theorem ldS_st {t : TI} {r : Bool} {rt : Option Nat} {x : Operand} (hef : (!r && rt.isNone) = false) : ldS t r (rootOf true [rt]) (Operand.tmp? x) e s (ent C e x) = ldS t r (rootOf true [rt]) (Operand.tmp? x) e s' (ent C e x) := by
  unfold ldS
  cases hok : rootOk (rootOf true [rt]) (Operand.tmp? x) (ent C e x) with
  | false => rfl
  | true =>
    simp only [cond_true]
    cases hx : ent C e x with
    | none => rfl
    | s v =>
      rw [hx] at hok
      cases rt with
      | some n => simp [rootOf, rootOk] at hok
      | none =>
        have hr : r = true := by simpa using hef
        subst hr
        simp only [ldV]
        cases v <;> try rfl
    | var c => rfl
    | ptr g d o => rfl

theorem readS_agree {r : Bool} {rt : Option Nat} {op : Op} (h : agree (tmpsOf op) e e') (hr : agree rt.toList e e') : readS C r (rootOf true [rt]) e s op = readS C r (rootOf true [rt]) e' s op := by
  cases op <;> try rfl
  exact ldS_agree h hr

/-! ### turning -/

def FrmK (l ws : List Nat) (ef : Bool) (e : Env) (s : St) (m : Env → St → (Ent → Env → St → Res) → Res) : Prop :=
  (∀ e' s', agree l e e' → (ef = true → s' = s) → ∀ k, m e' s' k = none) ∨ ∃ (x : Ent) (u : List (Nat × Ent)) (g : St → St), (∀ p ∈ u, p.1 ∈ ws) ∧ (ef = false → ∀ s', g s' = s') ∧ ∀ e' s', agree l e e' → (ef = true → s' = s) → ∀ k, m e' s' k = k x (u ++ e') (g s')

section
variable {l ws : List Nat} {ef : Bool} {m : Env → St → (Ent → Env → St → Res) → Res}
theorem FrmK.no (h : ∀ e' s', agree l e e' → (ef = true → s' = s) → ∀ k, m e' s' k = none) : FrmK l ws ef e s m := .inl h
theorem FrmK.val (x : Ent) (h : ∀ e' s', agree l e e' → (ef = true → s' = s) → ∀ k, m e' s' k = k x e' s') : FrmK l ws ef e s m :=
  .inr ⟨x, [], fun s' => s', by simp, fun _ _ => rfl, fun e' s' h1 h2 k => h e' s' h1 h2 k⟩
theorem FrmK.st (x : Ent) (s1 : St) (he : ef = true) (h : ∀ e', agree l e e' → ∀ k, m e' s k = k x e' s1) : FrmK l ws ef e s m :=
  .inr ⟨x, [], fun _ => s1, by simp, fun h => (by rw [he] at h; cases h), fun e' s' h1 h2 k => by rw [h2 he]; exact h e' h1 k⟩
theorem FrmK.set (x : Ent) (d : Nat) (y : Ent) (hd : d ∈ ws) (h : ∀ e' s', agree l e e' → (ef = true → s' = s) → ∀ k, m e' s' k = k x ((d, y) :: e') s') : FrmK l ws ef e s m :=
  .inr ⟨x, [(d, y)], fun s' => s', by simpa using hd, fun _ _ => rfl, fun e' s' h1 h2 k => h e' s' h1 h2 k⟩
end

theorem new_frm {f : FuncId} {o : Oper} {l ws : List Nat} {cs : List Slot} {m : Env → St → (Ent → Env → St → Res) → Res} (hl : ∀ d, o.dst = some d → d ∈ l)
    (hm : ∀ e' s', agree l e e' → ∀ k, m e' s' k = newS (dstMode C f o) cs (dstOld e' o) s' (fun v s => k v e' s)) : FrmK l ws (dstMode C f o).isLoc e s m := by
  cases hmode : dstMode C f o with
  | loc => exact .st (.s (.val (.vp s.locs.length 0))) (s.addLoc (.var cs)) rfl fun e' h k => by rw [hm e' s h k, hmode]; rfl
  | con =>
    cases ha : avs cs with
    | none => exact .no fun e' s' h _ k => by rw [hm e' s' h k, hmode]; simp only [newS, ha]; rfl
    | some v => exact .val (.s (.val (.cp v))) fun e' s' h _ k => by rw [hm e' s' h k, hmode]; simp only [newS, ha]; rfl
  | var =>
    have hold : ∀ e', agree l e e' → dstOld e' o = dstOld e o := fun e' h => by
      unfold dstOld
      cases hd : o.dst with
      | none => rfl
      | some d => exact (h d (hl d hd)).symm
    cases ho : dstOld e o with
    | none => exact .val (.var cs) fun e' s' h _ k => by rw [hm e' s' h k, hmode, hold e' h, ho]; rfl
    | s v => exact .no fun e' s' h _ k => by rw [hm e' s' h k, hmode, hold e' h, ho]; rfl
    | var c => exact .no fun e' s' h _ k => by rw [hm e' s' h k, hmode, hold e' h, ho]; rfl
    | ptr g d off => exact .no fun e' s' h _ k => by rw [hm e' s' h k, hmode, hold e' h, ho]; rfl

theorem effK_frm {r : Bool} {f : FuncId} {rt : Option Nat} {all : List Oper} {o : Oper} {w : Bool} (hnp : isPure C o.op = false) (hnr : isRead o.op = false) :
    FrmK (rdO all o rt) (wrO o rt) (efO C r f o rt) e s (fun e s k => effK C cl true f o (rootOf true [rt]) w e s k) := by
  have h1 : ∀ e', agree (rdO all o rt) e e' → agree (tmpsOf o.op) e e' := fun e' h => h.mono fun i hi => List.mem_append_left _ hi
  have h2 : ∀ e', agree (rdO all o rt) e e' → agree rt.toList e e' := fun e' h => h.mono fun i hi => List.mem_append_right _ (List.mem_append_right _ (List.mem_append_left _ hi))
  have h3 : ∀ d, o.dst = some d → d ∈ rdO all o rt := fun d hd => List.mem_append_right _ (List.mem_append_right _ (List.mem_append_right _ (by rw [hd]; simp)))
  obtain ⟨dst, op, ty, after, ph, guard⟩ := o
  simp only at hnp hnr h1 h2 h3
  have dflt : efO C r f ⟨dst, op, ty, after, ph, guard⟩ rt = true → (∀ e s k, effK C cl true f ⟨dst, op, ty, after, ph, guard⟩ (rootOf true [rt]) w e s k = bif w then none else k (.s .no) e s) → FrmK (rdO all ⟨dst, op, ty, after, ph, guard⟩ rt) (wrO ⟨dst, op, ty, after, ph, guard⟩ rt) (efO C r f ⟨dst, op, ty, after, ph, guard⟩ rt) e s (fun e s k => effK C cl true f ⟨dst, op, ty, after, ph, guard⟩ (rootOf true [rt]) w e s k) := fun _ heq => by
    cases w with
    | true => exact .no fun e' s' _ _ k => heq e' s' k
    | false => exact .val (.s .no) fun e' s' _ _ k => heq e' s' k
  have hfalse : (∀ g as ts, op ≠ .call { callee := .value g, args := as, argTypes := ts }) → w = false → ∀ e s k, effK C cl true f ⟨dst, op, ty, after, ph, guard⟩ (rootOf true [rt]) w e s k = k (.s .no) e s := fun hop hw e s k => by
    subst hw
    unfold effK
    split
    · rename_i g as ts ho; exact absurd ho (hop g as ts)
    · rfl
  cases op <;> try first
    | (cases hnr; done)
    | exact dflt (by simp [efO, hnp]) (fun _ _ _ => rfl)
  case alloc t =>
    cases w with
    | false => exact .val (.s .no) fun e' s' _ _ k => hfalse (by intros; simp) rfl e' s' k
    | true =>
      cases hg : (C.ti t).isGood with
      | false => exact .no fun e' s' _ _ k => by simp only [effK, cond_true, hg, cond_false]
      | true => exact new_frm (e := e) (s := s) (cs := (C.ti t).zero.map .val) h3 fun e' s' _ k => by simp only [effK, cond_true, hg]
  case box t x =>
    cases w with
    | false => exact .val (.s .no) fun e' s' _ _ k => hfalse (by intros; simp) rfl e' s' k
    | true =>
      have hx : ∀ e', agree (rdO all ⟨dst, .box t x, ty, after, ph, guard⟩ rt) e e' → opnd C e' x = opnd C e x := fun e' h => (opnd_agree (h1 e' h) (by simp [Op.operands])).symm
      cases hb : boxCells (C.ti t) (opnd C e x) with
      | none => exact .no fun e' s' h _ k => by simp only [effK, cond_true, hx e' h, hb]; rfl
      | some cs => exact new_frm (e := e) (s := s) (cs := cs) h3 fun e' s' h k => by simp only [effK, cond_true, hx e' h, hb]; rfl
  case store t x y =>
    cases w with
    | false => exact .val (.s .no) fun e' s' _ _ k => hfalse (by intros; simp) rfl e' s' k
    | true =>
      have hy : ∀ e', agree (rdO all ⟨dst, .store t x y, ty, after, ph, guard⟩ rt) e e' → opnd C e' y = opnd C e y := fun e' h => (opnd_agree (h1 e' h) (by simp [Op.operands])).symm
      have hx : ∀ e', agree (rdO all ⟨dst, .store t x y, ty, after, ph, guard⟩ rt) e e' → ent C e' x = ent C e x := fun e' h => (ent_agree (h1 e' h) (by simp [Op.operands])).symm
      cases hb : boxCells (C.ti t) (opnd C e y) with
      | none => exact .no fun e' s' h _ k => by simp only [effK, cond_true, hy e' h, hb]; rfl
      | some cs =>
        have heq : ∀ e' s', agree (rdO all ⟨dst, .store t x y, ty, after, ph, guard⟩ rt) e e' → ∀ k, effK C cl true f ⟨dst, .store t x y, ty, after, ph, guard⟩ (rootOf true [rt]) true e' s' k = stS (rootOf true [rt]) (Operand.tmp? x) e' s' (ent C e x) cs (fun e s => k (.s .no) e s) := fun e' s' h k => by
          simp only [effK, cond_true, hy e' h, hx e' h, hb]; rfl
        cases hok : rootOk (rootOf true [rt]) (Operand.tmp? x) (ent C e x) with
        | false => exact .no fun e' s' h _ k => by rw [heq e' s' h k]; simp only [stS, hok, cond_false]
        | true =>
          have heq2 : ∀ e' s', agree (rdO all ⟨dst, .store t x y, ty, after, ph, guard⟩ rt) e e' → ∀ k, effK C cl true f ⟨dst, .store t x y, ty, after, ph, guard⟩ (rootOf true [rt]) true e' s' k = (match ent C e x with
            | .var l => match Operand.tmp? x with
              | some d => bindL (putAt l 0 cs) fun l' => k (.s .no) ((d, .var l') :: e') s'
              | none => none
            | .ptr w d off => match e'.get d with
              | .var l => bindL (bif w then putAt l off cs else none) fun l' => k (.s .no) ((d, .var l') :: e') s'
              | _ => none
            | .s v => bindS (stV s' v cs) fun s => k (.s .no) e' s
            | .none => none) := fun e' s' h k => by rw [heq e' s' h k]; simp only [stS, hok, cond_true]; rfl
          cases rt with
          | none =>
            cases he : ent C e x with
            | none => exact .no fun e' s' h _ k => by rw [heq2 e' s' h k, he]
            | var c => rw [he] at hok; simp [rootOf, rootOk] at hok
            | ptr g d off => rw [he] at hok; simp [rootOf, rootOk] at hok
            | s v =>
              cases hs : stV s v cs with
              | none => exact .no fun e' s' h hs' k => by rw [heq2 e' s' h k, he, hs' rfl]; simp only [hs]; rfl
              | some s1 => exact .st (.s .no) s1 rfl fun e' h k => by rw [heq2 e' s h k, he]; simp only [hs]; rfl
          | some n =>
            have hn : n ∈ wrO ⟨dst, .store t x y, ty, after, ph, guard⟩ (some n) := by simp [wrO, isStore]
            cases he : ent C e x with
            | none => exact .no fun e' s' h _ k => by rw [heq2 e' s' h k, he]
            | s v => rw [he] at hok; simp [rootOf, rootOk] at hok
            | var c =>
              rw [he] at hok
              cases ht : Operand.tmp? x with
              | none => exact .no fun e' s' h _ k => by rw [heq2 e' s' h k, he]; simp only [ht]
              | some d =>
                rw [ht] at hok
                simp only [rootOf, cond_true, rootOk] at hok
                have := Nat.eq_of_beq_eq_true hok
                subst this
                cases hp : putAt c 0 cs with
                | none => exact .no fun e' s' h _ k => by rw [heq2 e' s' h k, he]; simp only [ht, hp]; rfl
                | some l' => exact .set (.s .no) d (.var l') hn fun e' s' h _ k => by rw [heq2 e' s' h k, he]; simp only [ht, hp]; rfl
            | ptr g d off =>
              rw [he] at hok
              simp only [rootOf, cond_true, rootOk] at hok
              have := Nat.eq_of_beq_eq_true hok
              subst this
              have hget : ∀ e', agree (rdO all ⟨dst, .store t x y, ty, after, ph, guard⟩ (some d)) e e' → e'.get d = e.get d := fun e' h => (h2 e' h d (by simp)).symm
              cases hd : e.get d with
              | var c =>
                cases hp : (bif g then putAt c off cs else none) with
                | none => exact .no fun e' s' h _ k => by rw [heq2 e' s' h k, he]; simp only [hget e' h, hd, hp]; rfl
                | some l' => exact .set (.s .no) d (.var l') hn fun e' s' h _ k => by rw [heq2 e' s' h k, he]; simp only [hget e' h, hd, hp]; rfl
              | none => exact .no fun e' s' h _ k => by rw [heq2 e' s' h k, he]; simp only [hget e' h, hd]
              | s v => exact .no fun e' s' h _ k => by rw [heq2 e' s' h k, he]; simp only [hget e' h, hd]
              | ptr g' d' off' => exact .no fun e' s' h _ k => by rw [heq2 e' s' h k, he]; simp only [hget e' h, hd]
  case makeSlice t x y =>
    cases w with
    | false => exact .val (.s .no) fun e' s' _ _ k => hfalse (by intros; simp) rfl e' s' k
    | true =>
      have hx : ∀ e', agree (rdO all ⟨dst, .makeSlice t x y, ty, after, ph, guard⟩ rt) e e' → opnd C e' x = opnd C e x := fun e' h => (opnd_agree (h1 e' h) (by simp [Op.operands])).symm
      have hy : ∀ e', agree (rdO all ⟨dst, .makeSlice t x y, ty, after, ph, guard⟩ rt) e e' → opnd C e' y = opnd C e y := fun e' h => (opnd_agree (h1 e' h) (by simp [Op.operands])).symm
      cases hk : (C.ti t).k
      case slice et =>
        cases hm : makeS et (C.ti et) s (opnd C e x) (opnd C e y) with
        | none => exact .no fun e' s' h hs' k => by simp only [effK, cond_true, hk, hx e' h, hy e' h, hs' rfl, hm]; rfl
        | some p => exact .st (.s p.1) p.2 rfl fun e' h k => by simp only [effK, cond_true, hk, hx e' h, hy e' h, hm]; rfl
      all_goals exact .no fun e' s' _ _ k => by simp only [effK, cond_true, hk]
  case call c =>
    obtain ⟨cal', as, ts⟩ := c
    have hm : ∀ x ∈ as.toList, x ∈ (Op.call { callee := cal', args := as, argTypes := ts }).operands.toList := fun x hx => by
      simp only [Op.operands, Call.operands]
      cases cal' <;> simp_all
    have hef : efO C r f ⟨dst, .call { callee := cal', args := as, argTypes := ts }, ty, after, ph, guard⟩ rt = true := by simp [efO, hnp]
    cases cal' with
    | invoke rc nm => exact dflt hef (fun _ _ _ => rfl)
    | value g =>
      have hg : ∀ e', agree (rdO all ⟨dst, .call { callee := .value g, args := as, argTypes := ts }, ty, after, ph, guard⟩ rt) e e' → opnd C e' g = opnd C e g := fun e' h => (opnd_agree (h1 e' h) (by simp [Op.operands, Call.operands])).symm
      have ha : ∀ e', agree (rdO all ⟨dst, .call { callee := .value g, args := as, argTypes := ts }, ty, after, ph, guard⟩ rt) e e' → as.toList.map (opnd C e') = as.toList.map (opnd C e) := fun e' h => (map_agree (h1 e' h) hm).symm
      cases hr : noPan (cal cl w (tgtV (opnd C e g) (as.toList.map (opnd C e))) s) with
      | none => exact .no fun e' s' h hs' k => by simp only [effK, cond_true, hg e' h, ha e' h, hs' hef, hr]; rfl
      | some p =>
        obtain ⟨v, s1⟩ := p
        cases v with
        | pan v =>
          unfold noPan at hr
          split at hr
          · cases hr
          · cases hr
        | ret v => exact .st (.s v) s1 hef fun e' h k => by simp only [effK, cond_true, hg e' h, ha e' h, hr]; rfl
    | builtin b =>
      cases b <;> try exact dflt hef (fun _ _ _ => rfl)
      case append =>
        cases w with
        | false => exact .val (.s .no) fun e' s' _ _ k => hfalse (by intros; simp) rfl e' s' k
        | true =>
          have none_ : (∀ e' s' k, effK C cl true f ⟨dst, .call { callee := .builtin .append, args := as, argTypes := ts }, ty, after, ph, guard⟩ (rootOf true [rt]) true e' s' k = none) → FrmK (rdO all ⟨dst, .call { callee := .builtin .append, args := as, argTypes := ts }, ty, after, ph, guard⟩ rt) (wrO ⟨dst, .call { callee := .builtin .append, args := as, argTypes := ts }, ty, after, ph, guard⟩ rt) (efO C r f ⟨dst, .call { callee := .builtin .append, args := as, argTypes := ts }, ty, after, ph, guard⟩ rt) e s (fun e s k => effK C cl true f ⟨dst, .call { callee := .builtin .append, args := as, argTypes := ts }, ty, after, ph, guard⟩ (rootOf true [rt]) true e s k) := fun h => .no fun e' s' _ _ k => h e' s' k
          rcases has : as.toList with _ | ⟨x, _ | ⟨y, _ | ⟨z, q⟩⟩⟩
          · exact none_ fun e' s' k => by simp only [effK, cond_true, has]
          · exact none_ fun e' s' k => by simp only [effK, cond_true, has]
          rotate_left
          · exact none_ fun e' s' k => by simp only [effK, cond_true, has]
          rcases hts : ts.toList with _ | ⟨t, _ | ⟨u, _ | ⟨z, q⟩⟩⟩
          · exact none_ fun e' s' k => by simp only [effK, cond_true, has, hts]
          · exact none_ fun e' s' k => by simp only [effK, cond_true, has, hts]
          rotate_left
          · exact none_ fun e' s' k => by simp only [effK, cond_true, has, hts]
          have hx : ∀ e', agree (rdO all ⟨dst, .call { callee := .builtin .append, args := as, argTypes := ts }, ty, after, ph, guard⟩ rt) e e' → opnd C e' x = opnd C e x := fun e' h => (opnd_agree (h1 e' h) (hm x (by rw [has]; simp))).symm
          have hy : ∀ e', agree (rdO all ⟨dst, .call { callee := .builtin .append, args := as, argTypes := ts }, ty, after, ph, guard⟩ rt) e e' → opnd C e' y = opnd C e y := fun e' h => (opnd_agree (h1 e' h) (hm y (by rw [has]; simp))).symm
          cases hk : (C.ti t).k
          case slice et =>
            cases hb : Nat.beq t u with
            | false => exact none_ fun e' s' k => by simp only [effK, cond_true, has, hts, hk, hb]
            | true =>
              cases ham : appendS et (C.ti et) s (opnd C e x) (opnd C e y) with
              | none => exact .no fun e' s' h hs' k => by simp only [effK, cond_true, has, hts, hk, hb, hx e' h, hy e' h, hs' hef, ham]; rfl
              | some p => exact .st (.s p.1) p.2 hef fun e' h k => by simp only [effK, cond_true, has, hts, hk, hb, hx e' h, hy e' h, ham]; rfl
          all_goals exact none_ fun e' s' k => by simp only [effK, cond_true, has, hts, hk]

theorem readS_st {r : Bool} {f : FuncId} {rt : Option Nat} {o : Oper} (hef : efO C r f o rt = false) : readS C r (rootOf true [rt]) e s o.op = readS C r (rootOf true [rt]) e s' o.op := by
  unfold efO at hef
  cases hop : o.op <;> rw [hop] at hef <;> try rfl
  exact ldS_st hef

end
end Go.Am
