/- The operations that only compute: what the abstract machine gives, the model's operation gives. -/
import Derived.Test.YtemfpnlpnmglfaaA3
import Derived.Great.BuildSlice
import Derived.Laws.StructEq
set_option linter.unusedVariables false
set_option linter.unusedSimpArgs false
namespace Go.Am
open Go Go.RowKit

def GlobOK (C : Cfg) (κ : Kn) : Prop := (∀ g l, C.glob g = some l → VR κ (.cp l) (.pointer (some ⟨g, 0, none⟩))) ∧ ∀ g ∈ C.ints, ∃ m, κ.im g 0 = some (.int .i64 m)

theorem GlobOK.mono {C : Cfg} {κ κ' : Kn} (h : LE κ κ') (k : GlobOK C κ) : GlobOK C κ' := ⟨fun g l hg => VR.mono h _ _ (k.1 g l hg), fun g hg => (k.2 g hg).imp fun m hm => h.im _ _ _ hm⟩

theorem avOf_VR (κ : Kn) {v : Value} {a : AV} (h : avOf v = some a) : VR κ a v := by
  unfold avOf at h
  split at h <;> first | (cases h; simp [VR]; done) | (cases h; simp only [VR]; exact ⟨_, rfl, rfl⟩) | (cases h)

theorem Ent.slot_SR {κ : Kn} {w : World} {β : Nat → Option Nat} {i : Nat} {e : Ent} {v : Value} (h : EntR κ w β i e v) : SR κ e.slot v := by
  cases e <;> simp only [Ent.slot, SR]
  exact h

theorem opnd_SR {C : Cfg} {κ : Kn} {B N : Nat} {w : World} {e : Env} {a : Act} {β : Nat → Option Nat} {δ : List Nat} (hf : FrameR κ B w N e a β δ) (hg : GlobOK C κ) (x : Operand) : SR κ (opnd C e x) (a.eval x) := by
  cases x with
  | tmp t => exact Ent.slot_SR (hf.ent t)
  | const v =>
    simp only [opnd, Act.eval]
    cases h : avOf v with
    | none => trivial
    | some x => exact avOf_VR κ h
  | global g =>
    simp only [opnd, Act.eval]
    cases h : C.glob g with
    | none => trivial
    | some x => exact hg.1 g x h
  | func f => exact ⟨[], rfl, rfl⟩

section ops
variable {P : Program} {C : Cfg} {κ : Kn}

theorem toList_eq (x y : ByteArray) : (x.toList == y.toList) = (x.data.toList == y.data.toList) := by simp [ByteArray.toList_eq]


theorem eqGuard_plain (op : BinOp) (t : TypeId) (X Y : Operand) {x y : Value} (hx : (∀ l, x ≠ .agg l) ∨ (∀ l, y ≠ .agg l)) (hn : x ≠ .nilIface ∨ y ≠ .nilIface) (w : World) : (eqGuard op t X Y x y).run P w = .ok () w := by
  have key : (match x, y with
      | .nilIface, .nilIface => if (X matches .const _) || (Y matches .const _) then pure () else do
          if ← Op.eqGuardIn Op.maxDepth t x y then unsupported (.noEntry "binop/eql: two nil values of an interface type with methods, neither of them the literal nil")
      | .agg _, .agg _ => do
        if !(← program).eqGuardType (← program).depth t then return
        if ← Op.eqGuardIn Op.maxDepth t x y then unsupported (.noEntry "binop/eql: two nil values of an interface type with methods, in a part of a struct or an array")
      | _, _ => (pure () : Sem Unit)).run P w = .ok () w := by
    split
    · rcases hn with h | h <;> exact absurd rfl h
    · rcases hx with h | h <;> exact absurd rfl (h _)
    · rfl
  unfold eqGuard
  cases op <;> first | rfl | exact key

theorem bin_int (t : TypeId) (op : BinOp) (X Y : Operand) (w : World) {k j : IntKind} {a b : Int} {sl : Slot} (h : binS (C.ti t) op (.val (.int k a)) (.val (.int j b)) = some sl) :
    ∃ v, (do eqGuard op t X Y (.int k a) (.int j b); binOp op t (.int k a) (.int j b) : Sem Value).run P w = .ok v w ∧ SR κ sl v := by
  have hg := eqGuard_plain (P := P) op t X Y (x := .int k a) (y := .int j b) (.inl (by intro l h; cases h)) (.inl (by intro h; cases h)) w
  simp only [Sem.run_bind, hg, Result.andThen_ok]
  simp only [binS, Slot.av] at h
  cases op <;> simp only [] at h
  case shl =>
    by_cases hb : b < 0
    · simp [hb] at h
    · simp only [hb, if_false] at h
      cases h
      exact ⟨_, by simp only [binOp, Op.shift, hb, if_false]; rfl, by simp only [SR, VR]⟩
  case shr =>
    by_cases hb : b < 0
    · simp [hb] at h
    · simp only [hb, if_false] at h
      cases h
      exact ⟨_, by simp only [binOp, Op.shift, hb, if_false]; rfl, by simp only [SR, VR]⟩
  all_goals
    split at h
    case isFalse => cases h
    case isTrue hk =>
      subst hk
      first
        | (cases h; simp [binOp, Op.intArith, Op.intCmp, SR, VR]; done)
        | (split at h
           · cases h
           · cases h; simp_all [binOp, Op.intDiv, SR, VR])
        | cases h

theorem bin_str (t : TypeId) (op : BinOp) (X Y : Operand) (w : World) {x y : ByteArray} {sl : Slot} (h : binS (C.ti t) op (.val (.str x.data.toList)) (.val (.str y.data.toList)) = some sl) :
    ∃ v, (do eqGuard op t X Y (.string x) (.string y); binOp op t (.string x) (.string y) : Sem Value).run P w = .ok v w ∧ SR κ sl v := by
  have hg := eqGuard_plain (P := P) op t X Y (x := .string x) (y := .string y) (.inl (by intro l h; cases h)) (.inl (by intro h; cases h)) w
  simp only [Sem.run_bind, hg, Result.andThen_ok]
  simp only [binS, Slot.av] at h
  have e1 : x.toList = x.data.toList := by simp [ByteArray.toList_eq]
  have e2 : y.toList = y.data.toList := by simp [ByteArray.toList_eq]
  cases op <;> simp only [] at h <;> first
    | (cases h; simp [binOp, Op.stringOp, e1, e2, SR, VR]; done)
    | cases h
    | (split at h
       · rename_i hl
         cases h
         have hs : ¬ (((x.size + y.size : Nat) : Int) > IntKind.i64.max) := by
           have : x.data.toList.length = x.size := by simp
           have : y.data.toList.length = y.size := by simp
           have : IntKind.i64.max = 9223372036854775807 := by decide
           omega
         simp only [binOp, Op.stringOp, hs, if_false]
         exact ⟨_, rfl, x ++ y, by simp, rfl⟩
       · cases h)


theorem eqb_sim (hT : ∀ t, TyOK P C t) (d : Nat) (t : TypeId) {x y : AV} (hkx : (C.ti t).k.has x = true) {u v : Value} (hx : VR κ x u) (hy : VR κ y v) {r : Bool} (h : x.eqb y = some r) (w : World) :
    (Op.equalIn (d + 1) t u v).run P w = .ok r w := by
  have hK := (hT t).kind
  cases hk : (C.ti t).k <;> rw [hk] at hkx hK <;> cases x <;> simp only [TK.has] at hkx <;> try (cases hkx; done)
  · cases y <;> simp only [AV.eqb] at h <;> try (cases h; done)
    simp only [VR] at hx hy
    subst hx; subst hy
    cases h
    simp only [KOk] at hK
    simp [Op.equalIn, run_underlying hK]
  · cases y <;> simp only [AV.eqb] at h <;> try (cases h; done)
    split at h
    · rename_i hkj
      subst hkj
      simp only [VR] at hx hy
      subst hx; subst hy
      cases h
      simp only [KOk] at hK
      simp [Op.equalIn, run_underlying hK]
    · cases h
  · cases y <;> simp only [AV.eqb] at h <;> try (cases h; done)
    simp only [VR] at hx hy
    obtain ⟨x1, hx1, rfl⟩ := hx
    obtain ⟨y1, hy1, rfl⟩ := hy
    cases h
    simp only [KOk] at hK
    simp only [Op.equalIn, Sem.run_bind, run_underlying hK, Result.andThen_ok, Sem.run_pure]
    rw [beq_toListBytes, ByteArray.toList_eq, ByteArray.toList_eq, hx1, hy1]

theorem run_part_one (hT : ∀ t, TyOK P C t) {t : TypeId} {x : AV} (hkx : (C.ti t).k.has x = true) {xs : Array Value} {off : Nat} {v : Value} (hv : xs[off]? = some v) (w : World) : (part t xs off).run P w = .ok v w := by
  have hK := (hT t).kind
  cases hk : (C.ti t).k <;> rw [hk] at hkx hK <;> cases x <;> simp only [TK.has] at hkx <;> try (cases hkx; done)
  all_goals
    simp only [KOk] at hK
    simp [part, isAgg, run_underlying hK, hv]

theorem eqFields_sim (hT : ∀ t, TyOK P C t) (d : Nat) (us vs : List Value) : ∀ (fs : List Field) (off : Nat) (xs ys : List AV) (r : Bool), (∀ f ∈ fs, f.name ≠ "_") → fs.map (·.offset) = List.range' off fs.length →
    VRl κ xs (us.drop off) → VRl κ ys (vs.drop off) → eqAll (fs.map fun f => (C.ti f.type).k) xs ys = some r → ∀ w, (Op.eqFields (d + 1) us.toArray vs.toArray fs).run P w = .ok r w
  | [], off, xs, ys, r, _, _, hx, hy, h, w => by
    cases xs <;> cases ys <;> simp [eqAll] at h
    subst h
    simp [Op.eqFields]
  | f :: fs, off, xs, ys, r, hn, ho, hx, hy, h, w => by
    cases xs with
    | nil => simp [eqAll] at h
    | cons x xs =>
      cases ys with
      | nil => simp [eqAll] at h
      | cons y ys =>
        simp only [List.map_cons, eqAll] at h
        simp only [VRl] at hx hy
        obtain ⟨u, us', hu1, hu2, hu3⟩ := hx
        obtain ⟨v, vs', hv1, hv2, hv3⟩ := hy
        cases hk : ((C.ti f.type).k.has x && (C.ti f.type).k.has y) with
        | false => rw [hk] at h; cases h
        | true =>
          rw [hk] at h
          simp only [cond_true] at h
          rw [Bool.and_eq_true] at hk
          simp only [List.map_cons, List.length_cons, List.range'_succ, List.cons.injEq] at ho
          have hdu : us.drop (off + 1) = us' := by rw [← List.drop_drop, hu1]; rfl
          have hdv : vs.drop (off + 1) = vs' := by rw [← List.drop_drop, hv1]; rfl
          have hgu : us.toArray[f.offset]? = some u := by rw [ho.1]; simpa using (show us[off]? = some u by have := congrArg (·[0]?) hu1; simpa using this)
          have hgv : vs.toArray[f.offset]? = some v := by rw [ho.1]; simpa using (show vs[off]? = some v by have := congrArg (·[0]?) hv1; simpa using this)
          have ih := fun r h => eqFields_sim hT d us vs fs (off + 1) xs ys r (fun g hg => hn g (List.mem_cons_of_mem _ hg)) ho.2 (by rw [hdu]; exact hu3) (by rw [hdv]; exact hv3) h
          cases hb : x.eqb y with
          | none => rw [hb] at h; cases h
          | some b =>
            rw [hb] at h
            have he := eqb_sim hT d f.type hk.1 hu2 hv2 hb w
            have hf : f.name ≠ "_" := hn f List.mem_cons_self
            cases b with
            | false =>
              simp only [Option.some.injEq] at h
              subst h
              simp [Op.eqFields, hf, run_part_one hT hk.1 hgu, run_part_one hT hk.2 hgv, he]
            | true =>
              simp only [] at h
              simp [Op.eqFields, hf, run_part_one hT hk.1 hgu, run_part_one hT hk.2 hgv, he, ih r h w]

theorem eqS_sim (hT : ∀ t, TyOK P C t) (t : TypeId) {x y : AV} {u v : Value} (hx : VR κ x u) (hy : VR κ y v) {r : Bool} (h : eqS (C.ti t) x y = some r) (w : World) : (Op.equal t u v).run P w = .ok r w := by
  have hK := (hT t).kind
  unfold Op.equal
  show (Op.equalIn (9999 + 1) t u v).run P w = .ok r w
  obtain ⟨D, hD⟩ : ∃ D, D = 9998 + 1 := ⟨_, rfl⟩
  rw [show (9999 : Nat) = 9998 + 1 from rfl, ← hD]
  unfold eqS at h
  split at h <;> try (cases h; done)
  · rename_i a b hk; rw [hk] at hK; simp only [KOk] at hK; simp only [VR] at hx hy; subst hx; subst hy; cases h; simp only [Op.equalIn, Sem.run_bind, run_underlying hK, Result.andThen_ok]; first | rfl | simp
  · rename_i hk; rw [hk] at hK; obtain ⟨e, hK⟩ := hK; simp only [VR] at hx hy; subst hx; subst hy; cases h; simp only [Op.equalIn, Sem.run_bind, run_underlying hK, Result.andThen_ok]; first | rfl | simp
  · rename_i hk; rw [hk] at hK; obtain ⟨e, hK⟩ := hK; simp only [VR] at hx hy; obtain ⟨a, vs, rfl, _⟩ := hy; subst hx; cases h; simp only [Op.equalIn, Sem.run_bind, run_underlying hK, Result.andThen_ok]; first | rfl | simp
  · rename_i hk; rw [hk] at hK; obtain ⟨e, hK⟩ := hK; simp only [VR] at hx hy; obtain ⟨a, vs, rfl, _⟩ := hx; subst hy; cases h; simp only [Op.equalIn, Sem.run_bind, run_underlying hK, Result.andThen_ok]; first | rfl | simp
  · rename_i hk; rw [hk] at hK; obtain ⟨e, hK⟩ := hK; simp only [VR] at hx hy; obtain ⟨b, _, rfl⟩ := hy; subst hx; cases h; simp only [Op.equalIn, Sem.run_bind, run_underlying hK, Result.andThen_ok]; first | rfl | simp
  · rename_i hk; rw [hk] at hK; obtain ⟨e, hK⟩ := hK; simp only [VR] at hx hy; obtain ⟨b, _, rfl⟩ := hx; subst hy; cases h; simp only [Op.equalIn, Sem.run_bind, run_underlying hK, Result.andThen_ok]; first | rfl | simp
  · rename_i hk; rw [hk] at hK; simp only [KOk] at hK; simp only [VR] at hx hy; subst hx; subst hy; cases h; simp only [Op.equalIn, Sem.run_bind, run_underlying hK, Result.andThen_ok]; first | rfl | simp
  · rename_i hk; rw [hk] at hK; simp only [KOk] at hK; obtain ⟨a, n, c, rfl, _⟩ := VR_sl.1 hy; simp only [VR] at hx; subst hx; cases h; simp only [Op.equalIn, Sem.run_bind, run_underlying hK, Result.andThen_ok]; first | rfl | simp
  · rename_i hk; rw [hk] at hK; simp only [KOk] at hK; obtain ⟨a, n, c, rfl, _⟩ := VR_sl.1 hx; simp only [VR] at hy; subst hy; cases h; simp only [Op.equalIn, Sem.run_bind, run_underlying hK, Result.andThen_ok]; first | rfl | simp
  · rename_i hk; rw [hk] at hK; obtain ⟨e, e2, e3, hK⟩ := hK; simp only [VR] at hx hy; subst hx; subst hy; cases h; simp only [Op.equalIn, Sem.run_bind, run_underlying hK, Result.andThen_ok]; first | rfl | simp
  · rename_i hk; rw [hk] at hK; obtain ⟨e, e2, e3, hK⟩ := hK; simp only [VR] at hx hy; obtain ⟨vs, _, rfl⟩ := hy; subst hx; cases h; simp only [Op.equalIn, Sem.run_bind, run_underlying hK, Result.andThen_ok]; first | rfl | simp
  · rename_i hk; rw [hk] at hK; obtain ⟨e, e2, e3, hK⟩ := hK; simp only [VR] at hx hy; obtain ⟨vs, _, rfl⟩ := hx; subst hy; cases h; simp only [Op.equalIn, Sem.run_bind, run_underlying hK, Result.andThen_ok]; first | rfl | simp
  · rename_i hk; rw [hk] at hK; obtain ⟨e, e2, e3, hK⟩ := hK; simp only [VR] at hx hy; obtain ⟨vs, _, rfl⟩ := hy; subst hx; cases h; simp only [Op.equalIn, Sem.run_bind, run_underlying hK, Result.andThen_ok]; first | rfl | simp
  · rename_i hk; rw [hk] at hK; obtain ⟨e, e2, e3, hK⟩ := hK; simp only [VR] at hx hy; obtain ⟨vs, _, rfl⟩ := hx; subst hy; cases h; simp only [Op.equalIn, Sem.run_bind, run_underlying hK, Result.andThen_ok]; first | rfl | simp
  · rename_i hk; rw [hk] at hK; simp only [KOk] at hK; simp only [VR] at hx hy; subst hx; subst hy; cases h; simp only [Op.equalIn, Sem.run_bind, run_underlying hK, Result.andThen_ok]; first | rfl | simp
  · rename_i hk; rw [hk] at hK; simp only [KOk] at hK; simp only [VR] at hx hy; obtain ⟨b, _, rfl⟩ := hy; subst hx; cases h; simp only [Op.equalIn, Sem.run_bind, run_underlying hK, Result.andThen_ok]; first | rfl | simp
  · rename_i hk; rw [hk] at hK; simp only [KOk] at hK; simp only [VR] at hx hy; obtain ⟨b, _, rfl⟩ := hx; subst hy; cases h; simp only [Op.equalIn, Sem.run_bind, run_underlying hK, Result.andThen_ok]; first | rfl | simp
  · rename_i hk; rw [hk] at hK; obtain ⟨e, hK⟩ := hK; simp only [VR] at hx hy; obtain ⟨b, _, rfl⟩ := hy; subst hx; cases h; simp only [Op.equalIn, Sem.run_bind, run_underlying hK, Result.andThen_ok]; first | rfl | simp
  · rename_i hk; rw [hk] at hK; obtain ⟨e, hK⟩ := hK; simp only [VR] at hx hy; obtain ⟨b, _, rfl⟩ := hx; subst hy; cases h; simp only [Op.equalIn, Sem.run_bind, run_underlying hK, Result.andThen_ok]; first | rfl | simp
  · rename_i fs xs ys hk
    cases hfl : (C.ti t).flat with
    | nil => rw [hfl] at h; cases h
    | cons k0 ks0 =>
      obtain ⟨h1, h2, fields, h3, h4, h5, h6⟩ := (hT t).flat (by rw [hfl]; simp)
      simp only [VR] at hx hy
      obtain ⟨us, hu1, hu2, rfl⟩ := hx
      obtain ⟨vs, hv1, hv2, rfl⟩ := hy
      rw [hfl] at h
      simp only [List.isEmpty_cons, cond_false] at h
      have hfo : P.fieldsOf t = fields := by simp [Program.fieldsOf, h3]
      rw [run_equalIn_struct w D t _ _ (by rw [hfo]; exact h3) h2, hfo]
      subst hD
      rw [← hfl, ← h6] at h
      exact eqFields_sim hT 9998 us vs fields.toList 0 xs ys r h4 (by rw [h5, ← h6]; simp [List.range_eq_range']) (by simpa using hu1) (by simpa using hv1) h w


/-- values that '==' does not look into at the operation itself -/
def isOther : Value → Bool
  | .int _ _ | .float _ _ | .complex _ _ _ | .string _ => false
  | _ => true

theorem binOp_eql (t : TypeId) {u : Value} (v : Value) (h : isOther u = true) : binOp .eql t u v = (do pure (.bool (← Op.equal t u v))) := by
  cases u <;> simp only [isOther] at h <;> first | (cases h; done) | (cases v <;> rfl)
theorem binOp_neq (t : TypeId) {u : Value} (v : Value) (h : isOther u = true) : binOp .neq t u v = (do pure (.bool (!(← Op.equal t u v)))) := by
  cases u <;> simp only [isOther] at h <;> first | (cases h; done) | (cases v <;> rfl)

theorem eqS_other (t : TI) {x y : AV} {u : Value} (hx : VR κ x u) {r : Bool} (h : eqS t x y = some r) : isOther u = true := by
  unfold eqS at h
  split at h <;> first
    | (cases h; done)
    | (simp only [VR] at hx; subst hx; rfl)
    | (simp only [VR] at hx; obtain ⟨_, rfl⟩ := hx; rfl)
    | (simp only [VR] at hx; obtain ⟨_, _, rfl⟩ := hx; rfl)
    | (simp only [VR] at hx; obtain ⟨_, _, rfl, _⟩ := hx; rfl)
    | (simp only [VR] at hx; obtain ⟨_, _, _, rfl⟩ := hx; rfl)
    | (obtain ⟨a, n, c, rfl, _⟩ := VR_sl.1 hx; rfl)

theorem eqGuard_sim (hT : ∀ t, TyOK P C t) (op : BinOp) (t : TypeId) (X Y : Operand) {x y : AV} {u v : Value} (hx : VR κ x u) (hy : VR κ y v) {r : Bool} (h : eqS (C.ti t) x y = some r) (w : World) : (eqGuard op t X Y u v).run P w = .ok () w := by
  unfold eqS at h
  split at h <;> first
    | (cases h; done)
    | (simp only [VR] at hx hy; subst hx; obtain ⟨_, _, rfl⟩ := hy; exact eqGuard_plain op t X Y (.inl (by intro l h; cases h)) (.inr (by intro h; cases h)) w)
    | (simp only [VR] at hx; subst hx; exact eqGuard_plain op t X Y (.inl (by intro l h; cases h)) (.inl (by intro h; cases h)) w)
    | (simp only [VR] at hx; obtain ⟨_, _, rfl, _⟩ := hx; exact eqGuard_plain op t X Y (.inl (by intro l h; cases h)) (.inl (by intro h; cases h)) w)
    | (simp only [VR] at hx; obtain ⟨_, _, rfl⟩ := hx; exact eqGuard_plain op t X Y (.inl (by intro l h; cases h)) (.inl (by intro h; cases h)) w)
    | (obtain ⟨a, n, c, rfl, _⟩ := VR_sl.1 hx; exact eqGuard_plain op t X Y (.inl (by intro l h; cases h)) (.inl (by intro h; cases h)) w)
    | skip
  rename_i fs xs ys hk
  cases hfl : (C.ti t).flat with
  | nil => rw [hfl] at h; cases h
  | cons k0 ks0 =>
    obtain ⟨h1, _⟩ := (hT t).flat (by rw [hfl]; simp)
    simp only [VR] at hx hy
    obtain ⟨us, _, _, rfl⟩ := hx
    obtain ⟨vs, _, _, rfl⟩ := hy
    unfold eqGuard
    cases op <;> first | rfl | simp [h1]

theorem bin_sim (hT : ∀ t, TyOK P C t) (t : TypeId) (op : BinOp) (X Y : Operand) (w : World) {sx sy sl : Slot} {u v : Value} (hx : SR κ sx u) (hy : SR κ sy v) (h : binS (C.ti t) op sx sy = some sl) :
    ∃ z, (do eqGuard op t X Y u v; binOp op t u v : Sem Value).run P w = .ok z w ∧ SR κ sl z := by
  cases hax : sx.av with
  | none => simp [binS, hax] at h
  | some ax =>
    cases hay : sy.av with
    | none => simp [binS, hax, hay] at h
    | some ay =>
      have hb : binS (C.ti t) op sx sy = binS (C.ti t) op (.val ax) (.val ay) := by unfold binS; rw [hax, hay]; rfl
      rw [hb] at h
      have hu := hx.av hax
      have hv := hy.av hay
      by_cases hi : ∃ k a j b, ax = .int k a ∧ ay = .int j b
      · obtain ⟨k, a, j, b, rfl, rfl⟩ := hi
        simp only [VR] at hu hv
        subst hu; subst hv
        exact bin_int t op X Y w h
      · by_cases hs : ∃ a b, ax = .str a ∧ ay = .str b
        · obtain ⟨a, b, rfl, rfl⟩ := hs
          simp only [VR] at hu hv
          obtain ⟨x1, rfl, rfl⟩ := hu
          obtain ⟨y1, rfl, rfl⟩ := hv
          exact bin_str t op X Y w h
        · have he : (op = .eql ∧ ∃ r, eqS (C.ti t) ax ay = some r ∧ sl = .val (.bool r)) ∨ (op = .neq ∧ ∃ r, eqS (C.ti t) ax ay = some r ∧ sl = .val (.bool !r)) := by
            unfold binS at h
            simp only [Slot.av] at h
            split at h
            · rename_i h1 h2; cases h1; cases h2; exact absurd ⟨_, _, _, _, rfl, rfl⟩ hi
            · rename_i h1 h2; cases h1; cases h2; exact absurd ⟨_, _, rfl, rfl⟩ hs
            · rename_i h1 h2
              cases h1; cases h2
              cases op <;> simp only [] at h <;> try (cases h; done)
              · obtain ⟨r, h1, h2⟩ := Option.map_eq_some_iff.1 h
                exact .inl ⟨rfl, r, h1, h2.symm⟩
              · obtain ⟨r, h1, h2⟩ := Option.map_eq_some_iff.1 h
                exact .inr ⟨rfl, r, h1, h2.symm⟩
            · cases h
          rcases he with ⟨rfl, r, hr, rfl⟩ | ⟨rfl, r, hr, rfl⟩
          · refine ⟨.bool r, ?_, by simp [SR, VR]⟩
            simp only [Sem.run_bind, eqGuard_sim hT _ t X Y hu hv hr w, Result.andThen_ok, binOp_eql t v (eqS_other _ hu hr), eqS_sim hT t hu hv hr w, Sem.run_pure]
          · refine ⟨.bool (!r), ?_, by simp [SR, VR]⟩
            simp only [Sem.run_bind, eqGuard_sim hT _ t X Y hu hv hr w, Result.andThen_ok, binOp_neq t v (eqS_other _ hu hr), eqS_sim hT t hu hv hr w, Sem.run_pure]

theorem un_sim (op : UnOp) (w : World) {sx sl : Slot} {u : Value} (hx : SR κ sx u) (h : unS op sx = some sl) : ∃ z, (Op.unary op u).run P w = .ok z w ∧ SR κ sl z := by
  unfold unS at h
  split at h
  · cases h; simp only [SR, VR] at hx; subst hx; exact ⟨_, rfl, by simp [SR, VR]⟩
  · cases h; simp only [SR, VR] at hx; subst hx; exact ⟨_, rfl, by simp [SR, VR]⟩
  · cases h

theorem conv_sim (hT : ∀ t, TyOK P C t) (s d : TypeId) (w : World) {sx sl : Slot} {u : Value} (hx : SR κ sx u) (h : convS (C.ti s) (C.ti d) sx = some sl) : ∃ z, (convert s d u).run P w = .ok z w ∧ SR κ sl z := by
  have hKd := (hT d).kind
  unfold convS at h
  split at h
  · rename_i k _ n hk
    rw [hk] at hKd
    have hs : (C.ti s).k ≠ .bad ∧ some (Slot.val (.int k (k.wrap n))) = some sl := by
      split at h
      · cases h
      · rename_i hs; exact ⟨hs, h⟩
    obtain ⟨hs, h⟩ := hs
    obtain ⟨ds, hds⟩ : ∃ ds, P.underlying s = some ds := by
      have hK := (hT s).kind
      cases hk : (C.ti s).k <;> rw [hk] at hK <;> simp only [KOk] at hK <;> first | exact absurd hk hs | exact ⟨_, hK⟩ | (obtain ⟨_, hK⟩ := hK; exact ⟨_, hK⟩) | (obtain ⟨_, hK, _⟩ := hK; exact ⟨_, hK⟩) | (obtain ⟨_, _, _, hK⟩ := hK; exact ⟨_, hK⟩)
    cases h
    simp only [SR, VR] at hx
    subst hx
    refine ⟨.int k (k.wrap n), ?_, by simp [SR, VR]⟩
    simp only [convert, Sem.run_bind, run_underlying hds, run_underlying hKd, Result.andThen_ok]
    cases ds <;> rfl
  · rename_i l hk
    rw [hk] at hKd
    split at h
    · cases h
      simp only [SR, VR] at hx
      obtain ⟨x, hx1, rfl⟩ := hx
      rename_i hks
      have hKs := (hT s).kind
      rw [hks] at hKs
      refine ⟨.string x, ?_, x, hx1, rfl⟩
      simp only [KOk] at hKs hKd
      simp [convert, run_underlying hKs, run_underlying hKd]
    · cases h
  · cases h

end ops
end Go.Am
