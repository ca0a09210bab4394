/- Regions that draw their order: whatever order is drawn, it comes out as in the order of the list. -/
import Derived.Test.YtemfpnlpnmglfaaA16
import Derived.OrdersIn
set_option linter.unusedVariables false
set_option linter.unusedSimpArgs false
namespace Go.Am
open Go Go.RowKit

section
variable {C : Cfg} {e e' : Env} {s s' : St} {cl : CallFn} {r : Bool} {f : FuncId} {all : List Oper}

abbrev one (C : Cfg) (cl : CallFn) (r : Bool) (f : FuncId) (all : List Oper) (p : Oper × Option Nat) (e : Env) (s : St) (k : Env → St → Res) : Res := opsK C cl true r f all [p.1] [p.2] e s k

def FrmO (l ws : List Nat) (ef we : Bool) (e : Env) (s : St) (m : Env → St → (Env → St → Res) → Res) : Prop :=
  (∀ e' s', agree l e e' → (ef = true → s' = s) → ∀ k, m e' s' k = none) ∨ ∃ (u : List (Nat × Ent)) (g : St → St), (∀ p ∈ u, p.1 ∈ ws) ∧ (we = false → ∀ s', g s' = s') ∧ ∀ e' s', agree l e e' → (ef = true → s' = s) → ∀ k, m e' s' k = k (u ++ e') (g s')

theorem wants_agree {g : Option (Nat × Bool)} (h : agree (gtmp all g) e e') : wants all e' g = wants all e g := by
  cases g with
  | none => rfl
  | some p =>
    obtain ⟨j, want⟩ := p
    unfold wants gtmp at *
    cases hj : all[j]? with
    | none => simp only [hj]
    | some o =>
      simp only [hj] at h ⊢
      cases hd : o.dst with
      | none => rfl
      | some d =>
        simp only []
        rw [h d (by rw [hd]; simp)]

def ups (d : Option Tmp) (x : Ent) : List (Nat × Ent) := match d with | some d => [(d, x)] | none => []

theorem put_ups (d : Option Tmp) (x : Ent) (e : Env) : put d x e = ups d x ++ e := by cases d <;> rfl

theorem ups_keys {d : Option Tmp} {x : Ent} {ws : List Nat} (h : ∀ i ∈ d.toList, i ∈ ws) : ∀ p ∈ ups d x, p.1 ∈ ws := by
  cases d with
  | none => simp [ups]
  | some d => simpa [ups] using h d (by simp)

theorem one_frm (p : Oper × Option Nat) : FrmO (rdO all p.1 p.2) (wrO p.1 p.2) (efO C r f p.1 p.2) (weO C r f p.1 p.2) e s (one C cl r f all p) := by
  obtain ⟨o, rt⟩ := p
  have h1 : ∀ e', agree (rdO all o rt) e e' → agree (tmpsOf o.op) e e' := fun e' h => h.mono fun i hi => List.mem_append_left _ hi
  have h2 : ∀ e', agree (rdO all o rt) e e' → agree rt.toList e e' := fun e' h => h.mono fun i hi => List.mem_append_right _ (List.mem_append_right _ (List.mem_append_left _ hi))
  have h3 : ∀ e', agree (rdO all o rt) e e' → agree (gtmp all o.guard) e e' := fun e' h => h.mono fun i hi => List.mem_append_right _ (List.mem_append_left _ hi)
  have hk : ∀ i ∈ o.dst.toList, i ∈ wrO o rt := fun i hi => List.mem_append_left _ hi
  have heq : ∀ e' s' k, one C cl r f all (o, rt) e' s' k = bindB (wants all e' o.guard) fun w =>
      bif isPure C o.op then pureK C e' w o.op (fun v => k (put o.dst v e') s')
      else bif isRead o.op then bind1 (gd w (readS C r (rootOf true [rt]) e' s' o.op)) (fun v => k (put o.dst (.s v) e') s')
      else effK C cl true f o (rootOf true [rt]) w e' s' (fun v e s => k (put o.dst v e) s) := fun _ _ _ => rfl
  cases hw : wants all e o.guard with
  | none => exact .inl fun e' s' h _ k => by rw [heq, wants_agree (h3 e' h), hw]; rfl
  | some w =>
    have heq2 : ∀ e', agree (rdO all o rt) e e' → ∀ s' k, one C cl r f all (o, rt) e' s' k = (
      bif isPure C o.op then pureK C e' w o.op (fun v => k (put o.dst v e') s')
      else bif isRead o.op then bind1 (gd w (readS C r (rootOf true [rt]) e' s' o.op)) (fun v => k (put o.dst (.s v) e') s')
      else effK C cl true f o (rootOf true [rt]) w e' s' (fun v e s => k (put o.dst v e) s)) := fun e' h s' k => by rw [heq, wants_agree (h3 e' h), hw]; rfl
    cases hp : isPure C o.op with
    | true =>
      rcases pureK_det (C := C) (e := e) o.op w with hd | ⟨x, hd⟩
      · exact .inl fun e' s' h _ k => by rw [heq2 e' h, hp, cond_true, ← pureK_agree (h1 e' h), hd]
      · exact .inr ⟨ups o.dst x, fun s => s, ups_keys hk, fun _ _ => rfl, fun e' s' h _ k => by rw [heq2 e' h, hp, cond_true, ← pureK_agree (h1 e' h), hd, put_ups]⟩
    | false =>
      cases hr : isRead o.op with
      | true =>
        have hread : ∀ e', agree (rdO all o rt) e e' → ∀ s', (efO C r f o rt = true → s' = s) → readS C r (rootOf true [rt]) e' s' o.op = readS C r (rootOf true [rt]) e s o.op := fun e' h s' hs => by
          rw [← readS_agree (s := s') (h1 e' h) (h2 e' h)]
          cases hef : efO C r f o rt with
          | true => rw [hs hef]
          | false => exact readS_st hef
        cases hg : gd w (readS C r (rootOf true [rt]) e s o.op) with
        | none => exact .inl fun e' s' h hs k => by rw [heq2 e' h, hp, cond_false, hr, cond_true, hread e' h s' hs, hg]; rfl
        | some v => exact .inr ⟨ups o.dst (.s v), fun s => s, ups_keys hk, fun _ _ => rfl, fun e' s' h hs k => by rw [heq2 e' h, hp, cond_false, hr, cond_true, hread e' h s' hs, hg, ← put_ups]; rfl⟩
      | false =>
        rcases effK_frm (C := C) (cl := cl) (e := e) (s := s) (r := r) (f := f) (rt := rt) (all := all) (o := o) (w := w) hp hr with hd | ⟨x, u, g, k1, k2, hd⟩
        · exact .inl fun e' s' h hs k => by rw [heq2 e' h, hp, cond_false, hr, cond_false]; exact hd e' s' h hs _
        · refine .inr ⟨ups o.dst x ++ u, g, fun p hp => (List.mem_append.1 hp).elim (ups_keys hk p) (k1 p), fun h => k2 (by simpa [weO, hr] using h), fun e' s' h hs k => ?_⟩
          rw [heq2 e' h, hp, cond_false, hr, cond_false]
          refine (hd e' s' h hs _).trans ?_
          rw [put_ups, List.append_assoc]

/-! ### what does not meddle may change places -/

theorem get_app_not {u : List (Nat × Ent)} {i : Nat} (h : ∀ p ∈ u, p.1 ≠ i) (e : Env) : Env.get (u ++ e) i = e.get i := by
  induction u with
  | nil => rfl
  | cons p u ih =>
    obtain ⟨d, x⟩ := p
    rw [List.cons_append, Env.get_cons, if_neg (h (d, x) List.mem_cons_self)]
    exact ih fun p hp => h p (List.mem_cons_of_mem _ hp)

theorem get_app_mem {u : List (Nat × Ent)} {i : Nat} (h : ∃ p ∈ u, p.1 = i) (e e' : Env) : Env.get (u ++ e) i = Env.get (u ++ e') i := by
  induction u with
  | nil => obtain ⟨p, hp, _⟩ := h; simp at hp
  | cons p u ih =>
    obtain ⟨d, x⟩ := p
    rw [List.cons_append, List.cons_append, Env.get_cons, Env.get_cons]
    by_cases hd : d = i
    · rw [if_pos hd, if_pos hd]
    · rw [if_neg hd, if_neg hd]
      refine ih ?_
      obtain ⟨q, hq, hqi⟩ := h
      rcases List.mem_cons.1 hq with rfl | hq
      · exact absurd hqi hd
      · exact ⟨q, hq, hqi⟩

def Same (e e' : Env) : Prop := ∀ i, e.get i = e'.get i

theorem Same.app {u : List (Nat × Ent)} (h : Same e e') : Same (u ++ e) (u ++ e') := fun i => by
  by_cases hi : ∃ p ∈ u, p.1 = i
  · exact get_app_mem hi _ _
  · have hn : ∀ p ∈ u, p.1 ≠ i := fun p hp e => hi ⟨p, hp, e⟩
    rw [get_app_not hn, get_app_not hn, h i]

theorem app_comm {u v : List (Nat × Ent)} (h : ∀ p ∈ u, ∀ q ∈ v, p.1 ≠ q.1) (e : Env) : Same (u ++ (v ++ e)) (v ++ (u ++ e)) := fun i => by
  by_cases hi : ∃ p ∈ u, p.1 = i
  · have hv : ∀ q ∈ v, q.1 ≠ i := fun q hq e => by obtain ⟨p, hp, hpi⟩ := hi; exact h p hp q hq (hpi.trans e.symm)
    rw [get_app_not hv]
    exact get_app_mem hi _ _
  · have hn : ∀ p ∈ u, p.1 ≠ i := fun p hp e => hi ⟨p, hp, e⟩
    rw [get_app_not hn]
    by_cases hj : ∃ p ∈ v, p.1 = i
    · exact get_app_mem hj _ _
    · have hm : ∀ p ∈ v, p.1 ≠ i := fun p hp e => hj ⟨p, hp, e⟩
      rw [get_app_not hm, get_app_not hm, get_app_not hn]

def Resp (k : Env → St → Res) : Prop := ∀ e e' s, Same e e' → k e s = k e' s

theorem disj_spec {a b : List Nat} (h : disj a b = true) : ∀ i ∈ a, ∀ j ∈ b, i ≠ j := fun i hi j hj e => by
  simp only [disj, List.all_eq_true] at h
  have := h i hi j hj
  subst e
  simp at this

theorem agree_app {l ws : List Nat} {u : List (Nat × Ent)} (hu : ∀ p ∈ u, p.1 ∈ ws) (h : disj ws l = true) (e : Env) : agree l e (u ++ e) := fun i hi => by
  rw [get_app_not fun p hp => disj_spec h p.1 (hu p hp) i hi]

theorem swap {x y : Oper × Option Nat} (hc : comm C r f all y x = true) {k : Env → St → Res} (hk : Resp k) (e : Env) (s : St) :
    one C cl r f all y e s (fun e s => one C cl r f all x e s k) = one C cl r f all x e s (fun e s => one C cl r f all y e s k) := by
  simp only [comm, Bool.and_eq_true] at hc
  obtain ⟨c1, c2, c3, c4, c5⟩ := hc
  have refl : ∀ l, agree l e e := fun l i _ => rfl
  rcases one_frm (C := C) (cl := cl) (r := r) (f := f) (all := all) (e := e) (s := s) y with hy | ⟨uy, gy, y1, y2, hy⟩
  · rw [hy e s (refl _) (fun _ => rfl)]
    rcases one_frm (C := C) (cl := cl) (r := r) (f := f) (all := all) (e := e) (s := s) x with hx | ⟨ux, gx, x1, x2, hx⟩
    · rw [hx e s (refl _) (fun _ => rfl)]
    · rw [hx e s (refl _) (fun _ => rfl)]
      refine (hy _ _ (agree_app x1 c2 e) (fun h => ?_) _).symm
      exact x2 (by rw [h] at c5; simpa using c5) s
  · rw [hy e s (refl _) (fun _ => rfl)]
    have hgy : efO C r f x.1 x.2 = true → gy s = s := fun h => y2 (by rw [h] at c4; simpa using c4) s
    rcases one_frm (C := C) (cl := cl) (r := r) (f := f) (all := all) (e := e) (s := s) x with hx | ⟨ux, gx, x1, x2, hx⟩
    · rw [hx e s (refl _) (fun _ => rfl)]
      exact hx _ _ (agree_app y1 c1 e) hgy _
    · have hgx : efO C r f y.1 y.2 = true → gx s = s := fun h => x2 (by rw [h] at c5; simpa using c5) s
      rw [hx e s (refl _) (fun _ => rfl), hx _ _ (agree_app y1 c1 e) hgy, hy _ _ (agree_app x1 c2 e) hgx]
      have hst : gx (gy s) = gy (gx s) := by
        cases hef : weO C r f x.1 x.2 with
        | false => rw [x2 hef, x2 hef]
        | true =>
          have hef' : efO C r f y.1 y.2 = false := by rw [hef] at c5; simpa using c5
          have hwe : weO C r f y.1 y.2 = false := by simp [weO, hef']
          rw [y2 hwe, y2 hwe]
      rw [hst]
      exact hk _ _ _ (app_comm (fun p hp q hq e => disj_spec c3 q.1 (y1 q hq) p.1 (x1 p hp) e.symm) e)

theorem one_resp {x : Oper × Option Nat} {k : Env → St → Res} (hk : Resp k) : Resp fun e s => one C cl r f all x e s k := fun e e' s h => by
  rcases one_frm (C := C) (cl := cl) (r := r) (f := f) (all := all) (e := e) (s := s) x with hx | ⟨ux, gx, x1, x2, hx⟩
  · simp only [hx e s (fun i _ => rfl) (fun _ => rfl), hx e' s (fun i _ => h i) (fun _ => rfl)]
  · simp only [hx e s (fun i _ => rfl) (fun _ => rfl), hx e' s (fun i _ => h i) (fun _ => rfl)]
    exact hk _ _ _ h.app

def runK (C : Cfg) (cl : CallFn) (r : Bool) (f : FuncId) (all : List Oper) : List (Nat × (Oper × Option Nat)) → Env → St → (Env → St → Res) → Res
  | [], e, s, k => k e s
  | p :: L, e, s, k => one C cl r f all p.2 e s fun e s => runK C cl r f all L e s k

theorem runK_resp {k : Env → St → Res} (hk : Resp k) : ∀ L, Resp fun e s => runK C cl r f all L e s k
  | [] => hk
  | p :: L => one_resp (x := p.2) (runK_resp hk L)

theorem front {k : Env → St → Res} (hk : Resp k) {x : Nat × (Oper × Option Nat)} {L : List (Nat × (Oper × Option Nat))} : ∀ {A : List (Nat × (Oper × Option Nat))}, (∀ y ∈ A, comm C r f all y.2 x.2 = true) → ∀ e s, runK C cl r f all (A ++ x :: L) e s k = runK C cl r f all (x :: (A ++ L)) e s k
  | [], _, _, _ => rfl
  | y :: A, h, e, s => by
    have ih := front hk (x := x) (L := L) (A := A) (fun z hz => h z (List.mem_cons_of_mem _ hz))
    show one C cl r f all y.2 e s (fun e s => runK C cl r f all (A ++ x :: L) e s k) = _
    rw [show (fun e s => runK C cl r f all (A ++ x :: L) e s k) = fun e s => runK C cl r f all (x :: (A ++ L)) e s k from funext fun e => funext fun s => ih e s]
    exact swap (h y List.mem_cons_self) (runK_resp hk (A ++ L)) e s

theorem opsK_runK : ∀ (n : Nat) (os : List Oper) (rts : List (Option Nat)) (e : Env) (s : St) (k : Env → St → Res), opsK C cl true r f all os rts e s k = runK C cl r f all (mkL n os rts) e s k
  | _, [], _, _, _, _ => rfl
  | n, o :: os, rts, e, s, k => by
    have ih : (fun e s => opsK C cl true r f all os rts.tail e s k) = fun e s => runK C cl r f all (mkL (n + 1) os rts.tail) e s k := funext fun e => funext fun s => opsK_runK (n + 1) os rts.tail e s k
    show _ = one C cl r f all (o, rts.headD none) e s (fun e s => runK C cl r f all (mkL (n + 1) os rts.tail) e s k)
    rw [← ih]
    have hroot : rootOf true rts = rootOf true [rts.headD none] := by
      cases rts with
      | nil => rfl
      | cons x r => cases x <;> rfl
    rw [opsK_cons, hroot]
    rfl

/-- the run in the order of the list goes on in one way -/
theorem runK_det : ∀ (L : List (Nat × (Oper × Option Nat))) (e : Env) (s : St), (∀ k, runK C cl r f all L e s k = none) ∨ ∃ e1 s1, ∀ k, runK C cl r f all L e s k = k e1 s1
  | [], e, s => .inr ⟨e, s, fun _ => rfl⟩
  | p :: L, e, s => by
    rcases one_frm (C := C) (cl := cl) (r := r) (f := f) (all := all) (e := e) (s := s) p.2 with h | ⟨u, g, _, _, h⟩
    · exact .inl fun k => h e s (fun _ _ => rfl) (fun _ => rfl) _
    · rcases runK_det L (u ++ e) (g s) with h2 | ⟨e1, s1, h2⟩
      · exact .inl fun k => (h e s (fun _ _ => rfl) (fun _ => rfl) _).trans (h2 k)
      · exact .inr ⟨e1, s1, fun k => (h e s (fun _ _ => rfl) (fun _ => rfl) _).trans (h2 k)⟩

end
end Go.Am
