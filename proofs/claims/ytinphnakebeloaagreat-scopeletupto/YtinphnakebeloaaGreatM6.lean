/- A part of the proof: SArr, PTy, PSame, STree1, STree2, STree3, STree4, STree5, STree6, STree7, STy2, SDecl1, PTy2, PDecl, SDecl2, SMap, SDecl3, PScope, SScope1, SScope2, SScope3, SScope4. -/
import Derived.Test.YtinphnakebeloaaGreatM5
set_option linter.unusedVariables false
set_option linter.unusedSimpArgs false
namespace Go.Proofs.YtinphnakebeloaaGreat
open Go Go.Am
set_option linter.unusedVariables false
set_option maxRecDepth 4000
def plainV : AV → Bool
  | .vs _ _ _ _ _ => false
  | .agg _ => false
  | _ => true
theorem frz_plain (ti : TypeId → TI) (n : Nat) {v : AV} (h : plainV v = true) (s : St) : frz ti (n + 1) v s = some (v, s) := by
  cases v <;> first | rfl | simp [plainV] at h
theorem frzSlot_int (ti : TypeId → TI) (k : IntKind) (n : Int) (s : St) : frzSlot ti (.val (.int k n)) s = some (.val (.int k n), s) := rfl
theorem frzSlot_str (ti : TypeId → TI) (l : List UInt8) (s : St) : frzSlot ti (.val (.str l)) s = some (.val (.str l), s) := rfl
theorem frzSlot_nils (ti : TypeId → TI) (s : St) : frzSlot ti (.val .nils) s = some (.val .nils, s) := rfl
theorem frzSlot_full (ti : TypeId → TI) (l : List AV) (s : St) : frzSlot ti (.full l) s = some (.full l, s) := rfl
theorem eql_nils {t : TI} {e : TypeId} (h : t.k = .slice e) : binS t .eql (.val .nils) (.val .nils) = some (.val (.bool true)) := by simp only [binS, av_val, eqS, h]; rfl
theorem eql_sl {t : TI} {e : TypeId} (h : t.k = .slice e) (l : List AV) : binS t .eql (.val (.sl l)) (.val .nils) = some (.val (.bool false)) := by simp only [binS, av_val, eqS, h]; rfl
/-- append to nothing: a new shared array -/
theorem appendV_new {e : TypeId} {t : TI} {s : St} {y : Slot} {l : List AV} (hy : y.list? = some l) (hl : l ≠ []) (hs : ∀ v ∈ l, v.cells.length = t.size) (h0 : 0 < t.size) (b1 : l.length * t.bytes ≤ 140737488355328) (b2 : l.length ≤ 9223372036854775807) :
    appendV e t s (.full []) y = some (.val (.vs s.locs.length e t.size 0 l.length), s.addLoc (.var ((flatL l).map .val))) := by
  unfold appendV
  rw [hy]
  cases l with
  | nil => exact absurd rfl hl
  | cons a l =>
    simp only [okSz_of hs h0, cond_true]
    simp only [newV]
    rw [show okSz t.size [] = true from okSz_of (by simp) h0]
    simp only [cond_true, List.nil_append]
    rw [if_pos ⟨b1, b2⟩]
/-- make([]T, 0, n) -/
theorem make_new (et : TypeId) (t : TI) (s : St) (n : Int) (h0 : 0 ≤ n) (hn : n < 2^30) (hb : t.bytes ≤ 2^16) (hs : 0 < t.size) (z : AV) (hz : ofCells t t.zero = some z) :
    ∃ x s', makeS et t s (.val (.int .i64 0)) (.val (.int .i64 n)) = some (x, s') ∧ AccR et s s' x [] := by
  have h1 : n * (t.bytes : Int) ≤ n * 2^16 := Int.mul_le_mul_of_nonneg_left (by omega) h0
  refine ⟨.own s.toks.length et [], { s with toks := s.toks ++ [0] }, ?_, ⟨(Grew.refl s).pushTok 0, .inr (.inr ⟨s.toks.length, rfl, Nat.le_refl _, by simp⟩)⟩⟩
  simp only [makeS, hz]
  rw [if_pos ⟨Int.le_refl _, h0, by omega, hs, by omega⟩]
  rfl
theorem bindLS_ok (l : List Slot) (s : St) (k : List Slot → St → Res) : bindLS (some (l, s)) k = k l s := rfl
theorem frzW_plain (ti : TypeId → TI) (n : Nat) : ∀ (l : List AV) (s : St), (∀ v ∈ l, plainV v = true) → frzW (frz ti (n + 1)) l s = some (l, s)
  | [], s, _ => rfl
  | v :: l, s, h => by
    simp only [frzW]
    rw [frz_plain ti n (h v List.mem_cons_self)]
    simp only []
    rw [frzW_plain ti n l s fun w hw => h w (List.mem_cons_of_mem _ hw)]
theorem flatL_cons (v : AV) (l : List AV) : flatL (v :: l) = v.cells ++ flatL l := by simp [flatL]
theorem flatL_len {sz : Nat} : ∀ {l : List AV}, (∀ v ∈ l, v.cells.length = sz) → (flatL l).length = l.length * sz
  | [], _ => by simp [flatL]
  | v :: l, h => by
    rw [flatL_cons, List.length_append, flatL_len fun w hw => h w (List.mem_cons_of_mem _ hw), h v List.mem_cons_self, List.length_cons, Nat.succ_mul, Nat.add_comm]
theorem rows_flatL {t : TI} : ∀ {l : List AV}, (∀ v ∈ l, v.cells.length = t.size ∧ ofCells t v.cells = some v) → rows t l.length (flatL l) = some l
  | [], _ => rfl
  | v :: l, h => by
    have hv := h v List.mem_cons_self
    rw [List.length_cons, flatL_cons]
    simp only [rows]
    rw [List.take_left' hv.1, List.drop_left' hv.1, hv.2]
    simp only []
    rw [rows_flatL fun w hw => h w (List.mem_cons_of_mem _ hw)]
theorem flatL_at {sz : Nat} : ∀ {l : List AV} {i : Nat} {v : AV}, (∀ v ∈ l, v.cells.length = sz) → l[i]? = some v → ∃ a b, flatL l = a ++ (v.cells ++ b) ∧ a.length = i * sz
  | [], i, v, _, h => by simp at h
  | w :: l, 0, v, h, g => by
    simp at g; subst g
    exact ⟨[], flatL l, by rw [flatL_cons]; rfl, by simp⟩
  | w :: l, i + 1, v, h, g => by
    obtain ⟨a, b, e, k⟩ := flatL_at (l := l) (i := i) (v := v) (fun w hw => h w (List.mem_cons_of_mem _ hw)) (by simpa using g)
    refine ⟨w.cells ++ a, b, by rw [flatL_cons, e, List.append_assoc], ?_⟩
    rw [List.length_append, h w List.mem_cons_self, k, Nat.succ_mul, Nat.add_comm]
/-- a location holds a list's values -/
def Holds (s : St) (loc : Nat) (l : List AV) : Prop := s.locs[loc]? = some (.var ((flatL l).map .val))
theorem Holds.move {s s' : St} {loc : Nat} {l : List AV} (h : Holds s loc l) (g : Grew s s') : Holds s' loc l := g.loc h
theorem Holds.ld {s : St} {loc : Nat} {l : List AV} (h : Holds s loc l) {t : TI} (hs : ∀ v ∈ l, v.cells.length = t.size) {i : Nat} {v : AV} (hv : l[i]? = some v) : ldV t false s (.val (.vp loc (i * t.size))) = ofSlots t (v.cells.map .val) := by
  obtain ⟨a, b, e, k⟩ := flatL_at hs hv
  have hv' := hs v (List.mem_of_getElem? hv)
  unfold Holds at h
  simp only [ldV, cond_false, h, e, List.map_append]
  rw [List.drop_left' (by simpa using k), List.take_left' (by simpa using hv')]
theorem Holds.st {s : St} {loc : Nat} {l : List AV} (h : Holds s loc l) {sz : Nat} (hs : ∀ v ∈ l, v.cells.length = sz) {i : Nat} {v : AV} (hv : l[i]? = some v) : stV s (.val (.vp loc (i * sz))) (v.cells.map .val) = some s := by
  obtain ⟨a, b, e, k⟩ := flatL_at hs hv
  unfold Holds at h
  simp only [stV, h, e, List.map_append]
  have : putAt (List.map Slot.val a ++ (List.map Slot.val v.cells ++ List.map Slot.val b)) (i * sz) (List.map Slot.val v.cells) = some (List.map Slot.val a ++ (List.map Slot.val v.cells ++ List.map Slot.val b)) := by
    unfold putAt
    rw [if_pos (by simp only [List.length_append, List.length_map, k]; omega), List.take_left' (by simpa using k), List.drop_append, List.drop_of_length_le (by simp only [List.length_map, k]; omega)]
    simp only [List.length_map, k]
    rw [Nat.add_sub_cancel_left, List.nil_append, List.drop_left' (by simp)]
  rw [this]
  simp only []
  have hlt := (List.getElem?_eq_some_iff.1 h)
  obtain ⟨hlt, hget⟩ := hlt
  congr 1
  rw [show s.locs.set loc (Obj.var (List.map Slot.val a ++ (List.map Slot.val v.cells ++ List.map Slot.val b))) = s.locs from ?_]
  rw [← List.map_append, ← List.map_append, ← e, ← hget]
  exact List.set_getElem_self hlt
theorem Holds.frz {s : St} {loc : Nat} {l : List AV} (h : Holds s loc l) {ti : TypeId → TI} {e : TypeId} (hs : ∀ v ∈ l, v.cells.length = (ti e).size ∧ ofCells (ti e) v.cells = some v) (hp : ∀ v ∈ l, ∀ x ∈ v.cells, plainV x = true) (h0 : 0 < (ti e).size) :
    frzSlot ti (.val (.vs loc e (ti e).size 0 l.length)) s = some (.val (.sl l), { s with locs := s.locs.set loc .dead }) := by
  have hl := flatL_len (fun v hv => (hs v hv).1)
  unfold Holds at h
  simp only [frzSlot, Am.frz, h]
  rw [Nat.zero_mul, List.drop_zero, List.take_of_length_le (by simp only [List.length_map, hl]; omega), avs_map_val]
  simp only []
  rw [frzW_plain ti 14 _ _ (by intro v hv; obtain ⟨w, hw, hx⟩ := List.mem_flatMap.1 hv; exact hp w hw v hx)]
  simp only []
  rw [rows_flatL hs]
  simp only [List.length_map, hl, Nat.zero_add]
  rw [show (Nat.blt 0 (ti e).size && Nat.ble (l.length * (ti e).size) (l.length * (ti e).size)) = true by simp [h0, Nat.blt_eq, Nat.ble_eq]]
  rfl
/-- what is gone lay behind what was -/
theorem grew_kill {s0 s : St} (h : Grew s0 s) {k : Nat} (hk : s0.locs.length ≤ k) (o : Am.Obj) : Grew s0 { s with locs := s.locs.set k o } := by
  obtain ⟨⟨a, ha⟩, hb⟩ := h
  refine ⟨⟨a.set (k - s0.locs.length) o, ?_⟩, hb⟩
  simp only [ha]
  rw [List.set_append_right _ _ hk]
end Go.Proofs.YtinphnakebeloaaGreat

namespace Go.Am
open Go
def tvar (n : Int) : Ty := .mk 1 n [] [] true
mutual
def ownTy : Ty → Ty
  | .mk k n s l _ => .mk k n s (ownTys l) true
def ownTys : List Ty → List Ty
  | [] => []
  | t :: l => ownTy t :: ownTys l
end
def ofTy (name : Str) (l : List Ty) : Ty := .mk 2 0 name (l.map ownTy) true
def fnTy (a b : Ty) : Ty := ofTy [45, 62] [a, b]
section
variable {σ : Type} (to : Int → σ → Ty × σ)
mutual
def chTy : Ty → σ → Ty × σ
  | .mk k n s l _, st => bif decide (k = 1) then to n st else (.mk k n s (chTys l st).1 true, (chTys l st).2)
def chTys : List Ty → σ → List Ty × σ
  | [], st => ([], st)
  | t :: l, st => ((chTy t st).1 :: (chTys l (chTy t st).2).1, (chTys l (chTy t st).2).2)
end
end
def toPut (l : List Ty) (n : Int) (u : Unit) : Ty × Unit := (if 0 ≤ n ∧ n < l.length then ownTy (l.getD n.toNat default) else tvar n, u)
def putTy (t : Ty) (l : List Ty) : Ty := (chTy (toPut l) t ()).1
def placeI (n : Int) : List Int → Nat → Option Nat
  | [], _ => none
  | m :: l, i => if n = m then some i else placeI n l (i + 1)
def toCanon (n : Int) (old : List Int) : Ty × List Int :=
  match placeI n old 0 with
  | some i => (tvar i, old)
  | none => (tvar old.length, old ++ [n])
def givenB (nm : Str) : Int × Int × Bool :=
  bif decide (nm = [105, 110, 116]) || decide (nm = [98, 111, 111, 108]) || decide (nm = [117, 110, 105, 116]) || decide (nm = [101, 120, 110]) then (0, 0, true) else
  bif decide (nm = [114, 101, 102]) then (1, 1, true) else bif decide (nm = [45, 62]) then (2, 2, true) else bif decide (nm = [42]) then (2, 8, true) else (0, 8, false)
def goodC (k n : Int) (nm : Str) (len : Int) (low : Bool) : Bool :=
  bif decide (k = 1) then decide (n ≥ 0) && decide (nm = []) && decide (len = 0)
  else bif decide (k = 2) then decide (n = 0) && decide (len ≥ (givenB nm).1) && decide (len ≤ (givenB nm).2.1) && ((givenB nm).2.2 || low)
  else false
def goodB (t : Ty) : Bool := goodC t.kind t.n t.name t.args.length (lowB t.name)
mutual
def allTy (p : Ty → Bool) : Ty → Bool
  | .mk k n s l b => p (.mk k n s l b) && allTys p l
def allTys (p : Ty → Bool) : List Ty → Bool
  | [] => true
  | t :: l => allTy p t && allTys p l
end
mutual
theorem ownTy_size : ∀ t : Ty, (ownTy t).size = t.size
  | .mk k n s l b => by simp only [ownTy, Ty.size, ownTys_size l]
theorem ownTys_size : ∀ l : List Ty, Ty.sizes (ownTys l) = Ty.sizes l
  | [] => rfl
  | t :: l => by simp only [ownTys, Ty.sizes, ownTy_size t, ownTys_size l]
end
theorem ownTys_map : ∀ l : List Ty, ownTys l = l.map ownTy
  | [] => rfl
  | t :: l => by rw [ownTys, ownTys_map l]; rfl
theorem nodesTys_mem (a : Int) : ∀ {l : List Ty} {t : Ty}, t ∈ l → ∀ n ∈ nodesTy a t, n ∈ nodesTys a l
  | x :: l, t, h, n, hn => by
    simp only [nodesTys, List.mem_append]
    rcases List.mem_cons.1 h with rfl | h
    · exact .inl hn
    · exact .inr (nodesTys_mem a h n hn)
/-- names within their bounds -/
def NamesTy (t : Ty) : Prop := ∀ n ∈ nodesTy 0 t, n.ok
theorem NamesTy.name {k n : Int} {s : Str} {l : List Ty} {b : Bool} (h : NamesTy (.mk k n s l b)) : s.length < 2^40 := h (.ty (.mk k n s l b) 0) (by simp only [nodesTy]; exact List.mem_cons_self)
theorem NamesTy.arg {k n : Int} {s : Str} {l : List Ty} {b : Bool} (h : NamesTy (.mk k n s l b)) {t : Ty} (ht : t ∈ l) : NamesTy t := fun nd hn => h nd (by simp only [nodesTy]; exact List.mem_cons_of_mem _ (nodesTys_mem 0 ht nd hn))
/-! ### no list of parts is too long -/
mutual
def WideTy : Ty → Prop
  | .mk _ _ _ l _ => l.length < 2^28 ∧ WideTys l
def WideTys : List Ty → Prop
  | [] => True
  | t :: l => WideTy t ∧ WideTys l
end
theorem WideTys.iff : ∀ {l : List Ty}, WideTys l ↔ ∀ t ∈ l, WideTy t
  | [] => by simp [WideTys]
  | t :: l => by simp only [WideTys, WideTys.iff (l := l), List.mem_cons, forall_eq_or_imp]
theorem WideTy.len {k n : Int} {s : Str} {l : List Ty} {b : Bool} (h : WideTy (.mk k n s l b)) : l.length < 2^28 := by simp only [WideTy] at h; exact h.1
theorem WideTy.arg {k n : Int} {s : Str} {l : List Ty} {b : Bool} (h : WideTy (.mk k n s l b)) {t : Ty} (ht : t ∈ l) : WideTy t := by simp only [WideTy] at h; exact WideTys.iff.1 h.2 t ht
theorem wide_mk {k n : Int} {s : Str} {l : List Ty} {b : Bool} (h : l.length < 2^28) (g : ∀ t ∈ l, WideTy t) : WideTy (.mk k n s l b) := by simp only [WideTy]; exact ⟨h, WideTys.iff.2 g⟩
mutual
theorem wide_of_size : ∀ (t : Ty), t.size < 2^28 → WideTy t
  | .mk k n s l b, h => by
    simp only [Ty.size] at h
    have := Ty.len_sizes l
    simp only [WideTy]
    exact ⟨by omega, wides_of_size l (by omega)⟩
theorem wides_of_size : ∀ (l : List Ty), Ty.sizes l < 2^28 → WideTys l
  | [], _ => trivial
  | t :: l, h => by
    simp only [Ty.sizes] at h
    exact ⟨wide_of_size t (by omega), wides_of_size l (by omega)⟩
end
mutual
theorem wide_own : ∀ (t : Ty), WideTy t → WideTy (ownTy t)
  | .mk k n s l b, h => by
    simp only [ownTy, WideTy] at h ⊢
    exact ⟨by rw [ownTys_map, List.length_map]; exact h.1, wides_own l h.2⟩
theorem wides_own : ∀ (l : List Ty), WideTys l → WideTys (ownTys l)
  | [], _ => trivial
  | t :: l, h => ⟨wide_own t h.1, wides_own l h.2⟩
end
theorem chTys_len {σ : Type} (to : Int → σ → Ty × σ) : ∀ (l : List Ty) (st : σ), (chTys to l st).1.length = l.length
  | [], _ => rfl
  | t :: l, st => by simp only [chTys, List.length_cons, chTys_len to l]
section
variable {σ : Type} (to : Int → σ → Ty × σ)
mutual
theorem wide_ch (h : ∀ n st, WideTy (to n st).1) : ∀ (t : Ty) (st : σ), WideTy t → WideTy (chTy to t st).1
  | .mk k n s l b, st, g => by
    simp only [chTy]
    cases decide (k = 1) with
    | true => exact h n st
    | false =>
      simp only [cond_false, WideTy] at g ⊢
      exact ⟨by rw [chTys_len]; exact g.1, wides_ch h l st g.2⟩
theorem wides_ch (h : ∀ n st, WideTy (to n st).1) : ∀ (l : List Ty) (st : σ), WideTys l → WideTys (chTys to l st).1
  | [], _, _ => trivial
  | t :: l, st, g => ⟨wide_ch h t st g.1, wides_ch h l _ g.2⟩
end
end
theorem wide_tvar (n : Int) : WideTy (tvar n) := by simp only [tvar, WideTy, WideTys]; decide
theorem wide_toPut (l : List Ty) (g : ∀ t ∈ l, WideTy t) (n : Int) (u : Unit) : WideTy (toPut l n u).1 := by
  simp only [toPut]
  split
  · rename_i hn
    have hm : n.toNat < l.length := by omega
    rw [List.getD_eq_getElem?_getD, List.getElem?_eq_getElem hm, Option.getD_some]
    exact wide_own _ (g _ (List.getElem_mem hm))
  · exact wide_tvar n
theorem wide_put (t : Ty) (l : List Ty) (h : WideTy t) (g : ∀ t ∈ l, WideTy t) : WideTy (putTy t l) := wide_ch (toPut l) (wide_toPut l g) t () h
/-! ### the document's way -/
mutual
/-- a type's nodes -/
def preTy : Ty → List Ty
  | .mk k n s l b => .mk k n s l b :: preTys l
def preTys : List Ty → List Ty
  | [] => []
  | t :: l => preTy t ++ preTys l
end
mutual
theorem nodesTy_pre (a : Int) : ∀ t : Ty, nodesTy a t = (preTy t).map fun u => TNode.ty u a
  | .mk k n s l b => by simp only [nodesTy, preTy, List.map_cons, nodesTys_pre a l]
theorem nodesTys_pre (a : Int) : ∀ l : List Ty, nodesTys a l = (preTys l).map fun u => TNode.ty u a
  | [] => rfl
  | t :: l => by simp only [nodesTys, preTys, List.map_append, nodesTy_pre a t, nodesTys_pre a l]
end
mutual
theorem preTy_len : ∀ t : Ty, (preTy t).length = t.size
  | .mk k n s l b => by simp only [preTy, Ty.size, List.length_cons, preTys_len l]
theorem preTys_len : ∀ l : List Ty, (preTys l).length = Ty.sizes l
  | [] => rfl
  | t :: l => by simp only [preTys, Ty.sizes, List.length_append, preTy_len t, preTys_len l]
end
mutual
theorem allTy_pre (p : Ty → Bool) : ∀ t : Ty, allTy p t = (preTy t).all p
  | .mk k n s l b => by simp only [allTy, preTy, List.all_cons, allTys_pre p l]
theorem allTys_pre (p : Ty → Bool) : ∀ l : List Ty, allTys p l = (preTys l).all p
  | [] => rfl
  | t :: l => by simp only [allTys, preTys, List.all_append, allTy_pre p t, allTys_pre p l]
end
theorem NamesTy.pre {t : Ty} (h : NamesTy t) : ∀ u ∈ preTy t, u.name.length < 2^40 := fun u hu => by
  have := h (.ty u 0) (by rw [nodesTy_pre]; exact List.mem_map.2 ⟨u, hu, rfl⟩)
  exact this
def placeR (n : Int) (l : List Int) : Int := match placeI n l 0 with | some i => i | none => -1
def varsL : List Ty → List Int → List Int
  | [], acc => acc
  | u :: r, acc => varsL r (bif decide (u.kind = 1) && decide (placeR u.n acc < 0) then acc ++ [u.n] else acc)
mutual
def putR (l : List Ty) : Ty → Ty
  | .mk k n s a b => bif decide (k = 1) then (if 0 ≤ n ∧ n < l.length then ownTy (l.getD n.toNat default) else ownTy (.mk k n s a b)) else .mk k n s (putRs l a) true
def putRs (l : List Ty) : List Ty → List Ty
  | [] => []
  | t :: r => putR l t :: putRs l r
end
mutual
def renR (v : List Int) : Ty → Ty
  | .mk k n s a _ => bif decide (k = 1) then tvar (placeR n v) else .mk k n s (renRs v a) true
def renRs (v : List Int) : List Ty → List Ty
  | [] => []
  | t :: r => renR v t :: renRs v r
end
end Go.Am

namespace Go.Am
open Go
mutual
def eqTy : Ty → Ty → Bool
  | .mk k n s l _, .mk k' n' s' l' _ => decide (k = k') && decide (n = n') && decide (s = s') && eqTys l l'
def eqTys : List Ty → List Ty → Bool
  | [], [] => true
  | t :: l, u :: m => eqTy t u && eqTys l m
  | _, _ => false
end
def atB (w : Bool) (a b : Int) : Bool := !w || decide (a = b)
mutual
def eqPat (w : Bool) : Pat → Pat → Bool
  | .mk k a s n l _, .mk k' a' s' n' l' _ => decide (k = k') && decide (n = n') && decide (s = s') && atB w a a' && eqPats w l l'
def eqPats (w : Bool) : List Pat → List Pat → Bool
  | [], [] => true
  | t :: l, u :: m => eqPat w t u && eqPats w l m
  | _, _ => false
end
def eqCon (w : Bool) (c d : Con) : Bool := decide (c.name = d.name) && decide (c.has = d.has) && atB w c.at_ d.at_ && eqTy c.arg d.arg
def eqCons (w : Bool) : List Con → List Con → Bool
  | [], [] => true
  | t :: l, u :: m => eqCon w t u && eqCons w l m
  | _, _ => false
mutual
def eqExp (w : Bool) : Exp → Exp → Bool
  | .mk k a s n l _ c _ d _, .mk k' a' s' n' l' _ c' _ d' _ => decide (k = k') && decide (n = n') && decide (s = s') && atB w a a' && eqExps w l l' && eqCases w c c' && eqDecs w d d'
def eqExps (w : Bool) : List Exp → List Exp → Bool
  | [], [] => true
  | t :: l, u :: m => eqExp w t u && eqExps w l m
  | _, _ => false
def eqCase (w : Bool) : Case → Case → Bool
  | .mk p e, .mk p' e' => eqPat w p p' && eqExp w e e'
def eqCases (w : Bool) : List Case → List Case → Bool
  | [], [] => true
  | t :: l, u :: m => eqCase w t u && eqCases w l m
  | _, _ => false
def eqDec (w : Bool) : Dec → Dec → Bool
  | .mk k a s p l _ c _ f _, .mk k' a' s' p' l' _ c' _ f' _ => decide (k = k') && decide (s = s') && decide (p = p') && atB w a a' && eqCases w c c' && eqFuns w f f' && eqCons w l l'
def eqDecs (w : Bool) : List Dec → List Dec → Bool
  | [], [] => true
  | t :: l, u :: m => eqDec w t u && eqDecs w l m
  | _, _ => false
def eqFun (w : Bool) : Fun → Fun → Bool
  | .mk s a c, .mk s' a' c' => decide (s = s') && atB w a a' && eqCase w c c'
def eqFuns (w : Bool) : List Fun → List Fun → Bool
  | [], [] => true
  | t :: l, u :: m => eqFun w t u && eqFuns w l m
  | _, _ => false
end
end Go.Am

namespace Go.Proofs.YtinphnakebeloaaGreat
open Go Go.Am
set_option linter.unusedVariables false
theorem tree_small_spec (n : Int) (s : St) : cw (.f F_tree_small) [.int .u8 n] s = some (.ret (.val (.bool (smallB n))), s) := by
  rw [tree_small_eq]; simp only [go_sem]; rfl
theorem tree_great_spec (n : Int) (s : St) : cw (.f F_tree_great) [.int .u8 n] s = some (.ret (.val (.bool (greatB n))), s) := by
  rw [tree_great_eq]; simp only [go_sem]; rfl
theorem tree_isInt_spec (n : Int) (s : St) : cw (.f F_tree_isInt) [.int .i64 n] s = some (.ret (.val (.bool (isIntB n))), s) := by
  rw [tree_isInt_eq]; simp only [go_sem, Int.reduceNeg]; rfl
theorem tree_run_loop (l : Str) (pre : Str) : ∀ (suf : Str) (s : St), pre ++ suf = l → l.length < 2^62 → tree_run_l0 (.val (.str l)) (.val (.int .i64 pre.length)) s = some (.ret (.val (.bool (restAll suf && decide (l.length ≤ 32)))), s) := by
  intro suf
  induction suf generalizing pre with
  | nil =>
    intro s h hl
    rw [List.append_nil] at h
    subst h
    rw [tree_run_l0_eq]; simp only [ln_eq, bn_eq, lenS_str T_string_k, bind1_some, binS_lss, condS_bool]
    rw [ifR_neg (by simp)]
    simp only [go_sem]
    simp [restAll]
    omega
  | cons c suf ih =>
    intro s h hl
    have hc : l[pre.length]? = some c := by rw [← h]; simp
    have hlt : pre.length < l.length := by rw [← h]; simp
    have := ih (pre ++ [c]) s (by simp [h]) hl
    rw [tree_run_l0_eq]
    simp only [ln_eq, bn_eq, lenS_str T_string_k, bind1_some, binS_lss, condS_bool]
    rw [ifR_pos (by simpa using hlt), indexS_str T_string_k hc]
    simp only [go_sem, tree_small_spec, tree_great_spec]
    rw [wrap64 (by omega) (by omega)]
    have e : (pre.length : Int) + 1 = ((pre ++ [c]).length : Int) := by simp
    rw [e, this]
    simp only [go_sem, restAll, List.all_cons, unrestB]
    cases (!smallB c.toNat && !greatB c.toNat && (decide ((c.toNat : Int) < 48) || decide ((c.toNat : Int) > 57)) && !decide ((c.toNat : Int) = 39)) <;> simp
theorem tree_run_spec (l : Str) (s : St) (h0 : l ≠ []) (hl : l.length < 2^62) : cw (.f F_tree_run) [.str l] s = some (.ret (.val (.bool (runB l))), s) := by
  rw [tree_run_eq]
  cases l with
  | nil => exact absurd rfl h0
  | cons c l => exact tree_run_loop (c :: l) [c] l s rfl hl
theorem strings_Contains_spec (a b : Str) (s : St) (h : a.length < 4294967281) : cw (.f F_strings_Contains) [.str a, .str b] s = some (.ret (.val (.bool (Go.Lib.contains a b))), s) := by
  have e : C.ext F_strings_Contains = some extContains := by kernel_rfl
  rw [cw, callw_f]; unfold callR; rw [e]; simp [extContains, h]
theorem tree_capital_spec (l : Str) (s : St) (hl : l.length < 2^62) : cw (.f F_tree_capital) [.str l] s = some (.ret (.val (.bool (capB l))), s) := by
  rw [tree_capital_eq]
  by_cases h0 : l = []
  · subst h0; simp only [go_sem]; rfl
  · simp only [go_sem, h0, tree_great_spec, not_false_eq_true, indexS_zero T_string_k h0, tree_run_spec l s h0 hl]
    simp [capB, h0, headB]
theorem tree_constructor_spec (l : Str) (s : St) (hl : l.length < 2^62) : cw (.f F_tree_constructor) [.str l] s = some (.ret (.val (.bool (conB l))), s) := by
  rw [tree_constructor_eq]
  simp only [go_sem, tree_capital_spec l s hl]
  rfl
theorem tree_low_spec (l : Str) (s : St) (hl : l.length < 2^62) : cw (.f F_tree_low) [.str l] s = some (.ret (.val (.bool (lowB l))), s) := by
  rw [tree_low_eq]
  by_cases h0 : l = []
  · subst h0; simp only [go_sem]; rfl
  · have hk : K_80c441cf = wordsS := by decide +kernel
    have hc := fun b s => strings_Contains_spec wordsS b s (by decide +kernel)
    simp only [go_sem, h0, tree_small_spec, not_false_eq_true, indexS_zero T_string_k h0, tree_run_spec l s h0 hl, binS_sadd (C.ti T_string) [32] l (by simp; omega), binS_sadd (C.ti T_string) (32 :: l) [32] (by simp; omega), hk, hc]
    simp [lowB, h0, headB, Bool.and_assoc]
end Go.Proofs.YtinphnakebeloaaGreat

namespace Go.Proofs.YtinphnakebeloaaGreat
open Go Go.Am
set_option linter.unusedVariables false
set_option maxRecDepth 4000
theorem tree_wrongTy_spec (t : Ty) (s : St) (hn : t.name.length < 2^62) : cw (.f F_tree_wrongTy) [t.enc] s = some (.ret (.val (.int .i64 (wrongTyB t))), s) := by
  obtain ⟨k, n, nm, l, nl⟩ := t
  rw [tree_wrongTy_eq]
  simp only [go_sem, Nat.reduceAdd, Nat.reduceLeDiff, tree_wrongTy_j0_eq, tree_wrongTy_j1_eq, tree_low_spec nm _ hn]
  show _ = some (Out.ret (.val (.int .i64 (wrongTyC k n nm l.length))), s)
  delta wrongTyC tyLM
  generalize decide (nm = [105, 110, 116]) = x1
  generalize decide (nm = [98, 111, 111, 108]) = x2
  generalize decide (nm = [117, 110, 105, 116]) = x3
  generalize decide (nm = [101, 120, 110]) = x4
  generalize decide (nm = [114, 101, 102]) = x5
  generalize decide (nm = [45, 62]) = x6
  generalize decide (nm = [42]) = x7
  generalize lowB nm = x8
  cases x1 <;> cases x2 <;> cases x3 <;> cases x4 <;> cases x5 <;> cases x6 <;> cases x7 <;> cases x8 <;> rfl
theorem tree_wrongPat_spec (t : Pat) (s : St) (hn : t.name.length < 2^62) : cw (.f F_tree_wrongPat) [t.enc] s = some (.ret (.val (.int .i64 (wrongPatB t))), s) := by
  obtain ⟨k, a, nm, n, l, nl⟩ := t
  rw [tree_wrongPat_eq]
  have hk : k = 1 ∨ k = 2 ∨ k = 3 ∨ k = 4 ∨ k = 5 ∨ k = 6 ∨ (k < 1 ∨ k > 6) := by omega
  rcases hk with rfl | rfl | rfl | rfl | rfl | rfl | hk
  rotate_left 6
  · simp only [go_sem, Nat.reduceAdd, decide_eq_false (show ¬ k = 1 by omega), decide_eq_false (show ¬ k = 2 by omega), decide_eq_false (show ¬ k = 3 by omega), decide_eq_false (show ¬ k = 4 by omega), decide_eq_false (show ¬ k = 5 by omega), decide_eq_false (show ¬ k = 6 by omega)]
    have : (decide (k < 1) || decide (k > 6)) = true := by simpa using hk
    have e : wrongPatB (Pat.mk k a nm n l nl) = 29 := by
      show (bif (decide (k < 1) || decide (k > 6)) then (29 : Int) else _) = 29
      rw [this]; rfl
    rw [e]
  all_goals
    simp only [go_sem, Int.reduceEq, Int.reduceGT, Int.reduceLT, Nat.reduceAdd, Nat.reduceLeDiff, tree_wrongPat_j0_eq, tree_low_spec nm _ hn, tree_constructor_spec nm _ hn, tree_isInt_spec, wrongPatB, patLM, Pat.kind, Pat.name, Pat.n, Pat.kids]
    try rfl
theorem tree_wrongCon_spec (c : Con) (s : St) (hn : c.name.length < 2^62) : cw (.f F_tree_wrongCon) [c.enc] s = some (.ret (.val (.int .i64 (wrongConB c))), s) := by
  rw [tree_wrongCon_eq]
  simp only [go_sem, Nat.reduceAdd, Nat.reduceLeDiff, Con.cells, Ty.cells_eq, tree_capital_spec _ _ hn]
  rfl
theorem tree_wrongExp_spec (e : Exp) (s : St) (hn : e.name.length < 2^62) : cw (.f F_tree_wrongExp) [e.enc] s = some (.ret (.val (.int .i64 (wrongExpB e))), s) := by
  obtain ⟨k, a, nm, n, l, lb, c, cb, d, db⟩ := e
  rw [tree_wrongExp_eq]
  have hk : k = 1 ∨ k = 2 ∨ k = 3 ∨ k = 4 ∨ k = 5 ∨ k = 6 ∨ k = 7 ∨ k = 8 ∨ k = 9 ∨ k = 10 ∨ k = 11 ∨ k = 12 ∨ k = 13 ∨ k = 14 ∨ k = 15 ∨ k = 16 ∨ k = 17 ∨ k = 18 ∨ k = 19 ∨ k = 20 ∨ (k < 1 ∨ k > 20) := by omega
  rcases hk with rfl | rfl | rfl | rfl | rfl | rfl | rfl | rfl | rfl | rfl | rfl | rfl | rfl | rfl | rfl | rfl | rfl | rfl | rfl | rfl | hk
  rotate_left 20
  · simp only [go_sem, Nat.reduceAdd, Nat.reduceLeDiff, tree_fields_eq, decide_eq_false (show ¬ k = 1 by omega), decide_eq_false (show ¬ k = 2 by omega), decide_eq_false (show ¬ k = 3 by omega), decide_eq_false (show ¬ k = 4 by omega), decide_eq_false (show ¬ k = 5 by omega), decide_eq_false (show ¬ k = 6 by omega), decide_eq_false (show ¬ k = 7 by omega), decide_eq_false (show ¬ k = 8 by omega), decide_eq_false (show ¬ k = 9 by omega), decide_eq_false (show ¬ k = 10 by omega), decide_eq_false (show ¬ k = 11 by omega), decide_eq_false (show ¬ k = 12 by omega), decide_eq_false (show ¬ k = 13 by omega), decide_eq_false (show ¬ k = 14 by omega), decide_eq_false (show ¬ k = 15 by omega), decide_eq_false (show ¬ k = 16 by omega), decide_eq_false (show ¬ k = 17 by omega), decide_eq_false (show ¬ k = 18 by omega), decide_eq_false (show ¬ k = 19 by omega), decide_eq_false (show ¬ k = 20 by omega)]
    have h : (decide (k < 1) || decide (k > 20)) = true := by simpa using hk
    have e : wrongExpB (Exp.mk k a nm n l lb c cb d db) = 29 := by
      show (bif (decide (k < 1) || decide (k > 20) || _ || _ || _ || _ || _) then (29 : Int) else _) = 29
      rw [h]; rfl
    rw [e]
  all_goals
    simp only [go_sem, Int.reduceEq, Int.reduceGT, Int.reduceLT, Nat.reduceAdd, Nat.reduceLeDiff, tree_fields_eq, tree_low_spec nm _ hn, tree_constructor_spec nm _ hn, tree_isInt_spec, wrongExpB, expLM, Exp.kind, Exp.name, Exp.n, Exp.kids, Exp.cases, Exp.decs]
    try rfl
theorem tree_wrongDec_spec (d : Dec) (inn : Bool) (a : Int) (r : List AV) (s : St) (hn : d.name.length < 2^62) : cw (.f F_tree_thing_wrongDec) [.agg [.cp (d.cells ++ r), .bool inn, .nilp, .nilp, .nilp, .nilp, .nilp, .int .i64 a]] s = some (.ret (.val (.int .i64 (wrongDecB d inn))), s) := by
  obtain ⟨k, at_, nm, p, l, nb, c, cb, f, fb⟩ := d
  rw [tree_thing_wrongDec_eq]
  simp only [go_sem, Nat.reduceAdd, tree_low_spec nm _ hn, tree_thing_wrongDec_j0_eq]
  show _ = some (Out.ret (.val (.int .i64 (wrongDecC k nm p l.length c.length f.length inn))), s)
  delta wrongDecC
  generalize decide (k = 1) = x1
  generalize decide (k = 2) = x2
  generalize decide (k = 3) = x3
  generalize decide (k = 4) = x4
  cases x1 <;> cases x2 <;> cases x3 <;> cases x4 <;> rfl
end Go.Proofs.YtinphnakebeloaaGreat

namespace Go.Proofs.YtinphnakebeloaaGreat
open Go Go.Am
set_option linter.unusedVariables false
set_option maxRecDepth 4000
theorem tree_thing_node_spec (nd : TNode) (r : List AV) (s : St) : cw (.f F_tree_thing_node) [nd.thing r] s = some (.ret (.val (.bool nd.isNode)), s) := by
  rw [tree_thing_node_eq]
  cases nd <;> simp only [go_sem, Nat.reduceAdd, TNode.thing, TNode.isNode]
theorem tree_thing_wrong_spec (nd : TNode) (r : List AV) (s : St) (h : nd.name.length < 2^40) : cw (.f F_tree_thing_wrong) [nd.thing r] s = some (.ret (.val nd.bad.enc), s) := by
  rw [tree_thing_wrong_eq]
  have key : ∀ (e a : Int) (nm : Str) (v : List Slot) (s : St), v.getD 7 .und = .val (.int .i64 a) → v.length = 8 → tree_thing_wrong_j0 v [.val (.int .i64 0), .val (.int .i64 0), .val (.str [])] (.val (.int .i64 e)) (.val (.str nm)) s = some (.ret (.val (mkBad e a nm).enc), s) := by
    intro e a nm v s hv hl
    have hd : (v.drop 7).take 1 = [.val (.int .i64 a)] := by
      match v, hl with
      | [_, _, _, _, _, _, _, x], _ => simpa using hv
    rw [tree_thing_wrong_j0_eq]
    by_cases h0 : e = 0
    · subst h0
      simp only [go_sem, Int.reduceEq, Nat.reduceAdd, Nat.reduceLeDiff, hd]
      rfl
    · by_cases h8 : e = 8
      · subst h8
        simp only [go_sem, Int.reduceEq, Nat.reduceAdd, Nat.reduceLeDiff, hd]
        rfl
      · simp only [go_sem, Nat.reduceAdd, Nat.reduceLeDiff, hd, decide_eq_false h0, decide_eq_false h8, mkBad]
        rfl
  cases nd with
  | dec inn d =>
    have hn : d.name.length < 2^62 := by simp only [TNode.name] at h; omega
    have hw := fun s => tree_wrongDec_spec d inn d.at_ r s hn
    obtain ⟨k, a, nm, p, l, nb, c, cb, f, fb⟩ := d
    simp only [go_sem, Exp.enc, Pat.enc, Ty.enc, Dec.enc] at hw
    simp only [go_sem, Nat.reduceAdd, Nat.reduceLeDiff, TNode.thing, hw]
    exact key _ _ _ _ _ rfl rfl
  | exp e =>
    have hn : e.name.length < 2^62 := by simp only [TNode.name] at h; omega
    have hw := fun s => tree_wrongExp_spec e s hn
    obtain ⟨k, a, nm, n, l, lb, c, cb, d, db⟩ := e
    simp only [go_sem, Exp.enc, Pat.enc, Ty.enc, Dec.enc] at hw
    simp only [go_sem, Nat.reduceAdd, Nat.reduceLeDiff, TNode.thing, hw]
    exact key _ _ _ _ _ rfl rfl
  | pat e =>
    have hn : e.name.length < 2^62 := by simp only [TNode.name] at h; omega
    have hw := fun s => tree_wrongPat_spec e s hn
    obtain ⟨k, a, nm, n, l, lb⟩ := e
    simp only [go_sem, Exp.enc, Pat.enc, Ty.enc, Dec.enc] at hw
    simp only [go_sem, Nat.reduceAdd, Nat.reduceLeDiff, TNode.thing, hw]
    exact key _ _ _ _ _ rfl rfl
  | ty e a =>
    have hn : e.name.length < 2^62 := by simp only [TNode.name] at h; omega
    have hw := fun s => tree_wrongTy_spec e s hn
    obtain ⟨k, n, nm, l, lb⟩ := e
    simp only [go_sem, Exp.enc, Pat.enc, Ty.enc, Dec.enc] at hw
    simp only [go_sem, Nat.reduceAdd, Nat.reduceLeDiff, TNode.thing, hw]
    exact key _ _ _ _ _ rfl rfl
  | fn f =>
    have hn : f.name.length < 2^62 := by simp only [TNode.name] at h; omega
    have hw := fun s => tree_low_spec f.name s hn
    obtain ⟨nm, a, c⟩ := f
    simp only [Fun.name] at hw
    have k0 := fun v s h1 h2 => key 0 a nm v s h1 h2
    have k8 := fun v s h1 h2 => key 8 a nm v s h1 h2
    simp only [go_sem, Nat.reduceAdd, Nat.reduceLeDiff, TNode.thing, hw, Fun.at_]
    show _ = some (Out.ret (.val (mkBad (bif !lowB nm then 8 else 0) a nm).enc), s)
    cases lowB nm
    · simp only [go_sem]; exact key 8 a nm _ s rfl rfl
    · simp only [go_sem]; exact key 0 a nm _ s rfl rfl
  | con c =>
    have hn : c.name.length < 2^62 := by simp only [TNode.name] at h; omega
    have hw := fun s => tree_wrongCon_spec c s hn
    obtain ⟨nm, a, hs, arg⟩ := c
    simp only [go_sem, Con.enc, Con.cells] at hw
    simp only [go_sem, Nat.reduceAdd, Nat.reduceLeDiff, TNode.thing, Con.cells, hw]
    exact key _ _ _ _ _ rfl rfl
end Go.Proofs.YtinphnakebeloaaGreat

namespace Go.Proofs.YtinphnakebeloaaGreat
open Go Go.Am
set_option linter.unusedVariables false
set_option maxRecDepth 4000
theorem tree_deepTy_loop (L : List Ty) (x : Slot) (hx : x.list? = some (L.map Ty.enc)) (hl : L.length < 2^40) : ∀ (suf pre : List Ty) (n : Int) (s : St) (i : Nat), pre ++ suf = L → i = pre.length → (∀ t ∈ suf, ∀ s, cw (.f F_tree_deepTy) [t.enc] s = some (.ret (.val (.int .i64 (deepTy t))), s)) → 0 ≤ n → n < 2^40 → Ty.sizes suf < 2^40 →
    tree_deepTy_l0 (.val (.int .i64 n)) x (.val (.int .i64 L.length)) (.val (.int .i64 i)) s = some (.ret (.val (.int .i64 (deepTys suf n + 1))), s)
  | [], pre, n, s, i, h, hi, H, h0, h1, h2 => by
    subst hi
    rw [tree_deepTy_l0_eq]; simp only [go_sem, end_facts (by simpa using h)]
    rw [wrap64 (by omega) (by omega)]; rfl
  | t :: suf, pre, n, s, i, h, hi, H, h0, h1, h2 => by
    subst hi
    obtain ⟨f1, f2, f3⟩ := step_facts hx h (by omega) (Ty.cells_len t) (by decide)
    have ht := deepTy_le t
    have hm := maxI_le n (deepTy t) (2^40 - 1)
    have hn := le_maxI n (deepTy t)
    simp only [Ty.sizes] at h2
    rw [tree_deepTy_l0_eq]; simp only [go_sem, Nat.reduceAdd, Nat.reduceLeDiff, f1, f2, f3, H t (List.mem_cons_self)]
    exact tree_deepTy_loop L x hx hl suf (pre ++ [t]) _ s _ (by simpa using h) (by simp) (fun u hu => H u (List.mem_cons_of_mem _ hu)) (by omega) (by omega) (by omega)
theorem tree_deepTy_spec : ∀ (m : Nat) (t : Ty) (s : St), t.size ≤ m → t.size < 2^40 → cw (.f F_tree_deepTy) [t.enc] s = some (.ret (.val (.int .i64 (deepTy t))), s)
  | 0, .mk _ _ _ _ _, _, h, _ => by simp only [Ty.size] at h; omega
  | m + 1, .mk k n nm l nl, s, h, h' => by
    simp only [Ty.size] at h h'
    have hl := Ty.len_sizes l
    rw [tree_deepTy_eq]; simp only [go_sem, Nat.reduceAdd, Nat.reduceLeDiff, Ty.enc]
    exact tree_deepTy_loop l _ (by simp only [go_sem]) (by omega) l [] 0 s 0 rfl rfl (fun u hu s => by have := Ty.mem_sizes hu; exact tree_deepTy_spec m u s (by omega) (by omega)) (by omega) (by omega) (by omega)
theorem tree_deepPat_loop (L : List Pat) (x : Slot) (hx : x.list? = some (L.map Pat.enc)) (hl : L.length < 2^40) : ∀ (suf pre : List Pat) (n : Int) (s : St) (i : Nat), pre ++ suf = L → i = pre.length → (∀ t ∈ suf, ∀ s, cw (.f F_tree_deepPat) [t.enc] s = some (.ret (.val (.int .i64 (deepPat t))), s)) → 0 ≤ n → n < 2^40 → Pat.sizes suf < 2^40 →
    tree_deepPat_l0 (.val (.int .i64 n)) x (.val (.int .i64 L.length)) (.val (.int .i64 i)) s = some (.ret (.val (.int .i64 (deepPats suf n + 1))), s)
  | [], pre, n, s, i, h, hi, H, h0, h1, h2 => by
    subst hi
    rw [tree_deepPat_l0_eq]; simp only [go_sem, end_facts (by simpa using h)]
    rw [wrap64 (by omega) (by omega)]; rfl
  | t :: suf, pre, n, s, i, h, hi, H, h0, h1, h2 => by
    subst hi
    obtain ⟨f1, f2, f3⟩ := step_facts hx h (by omega) (Pat.cells_len t) (by decide)
    have ht := deepPat_le t
    have hm := maxI_le n (deepPat t) (2^40 - 1)
    have hn := le_maxI n (deepPat t)
    simp only [Pat.sizes] at h2
    rw [tree_deepPat_l0_eq]; simp only [go_sem, Nat.reduceAdd, Nat.reduceLeDiff, f1, f2, f3, H t (List.mem_cons_self)]
    exact tree_deepPat_loop L x hx hl suf (pre ++ [t]) _ s _ (by simpa using h) (by simp) (fun u hu => H u (List.mem_cons_of_mem _ hu)) (by omega) (by omega) (by omega)
theorem tree_deepPat_spec : ∀ (m : Nat) (t : Pat) (s : St), t.size ≤ m → t.size < 2^40 → cw (.f F_tree_deepPat) [t.enc] s = some (.ret (.val (.int .i64 (deepPat t))), s)
  | 0, .mk _ _ _ _ _ _, _, h, _ => by simp only [Pat.size] at h; omega
  | m + 1, .mk k a nm n l nl, s, h, h' => by
    simp only [Pat.size] at h h'
    have hl := Pat.len_sizes l
    rw [tree_deepPat_eq]; simp only [go_sem, Nat.reduceAdd, Nat.reduceLeDiff, Pat.enc]
    exact tree_deepPat_loop l _ (by simp only [go_sem]) (by omega) l [] 0 s 0 rfl rfl (fun u hu s => by have := Pat.mem_sizes hu; exact tree_deepPat_spec m u s (by omega) (by omega)) (by omega) (by omega) (by omega)
def deepExpOK (t : Exp) : Prop := ∀ s, cw (.f F_tree_deepExp) [t.enc] s = some (.ret (.val (.int .i64 (deepExp t))), s)
def deepCasesOK (l : List Case) : Prop := ∀ (v : AV) (s : St), (Slot.val v).list? = some (l.map Case.enc) → cw (.f F_tree_deepCases) [v] s = some (.ret (.val (.int .i64 (deepCases l 0))), s)
def deepDecsOK (l : List Dec) : Prop := ∀ (v : AV) (s : St), (Slot.val v).list? = some (l.map Dec.enc) → cw (.f F_tree_deepDecs) [v] s = some (.ret (.val (.int .i64 (deepDecs l 0))), s)
theorem tree_deepExp_loop (L : List Exp) (x : Slot) (hx : x.list? = some (L.map Exp.enc)) (hl : L.length < 2^40) : ∀ (suf pre : List Exp) (n : Int) (s : St) (i : Nat), pre ++ suf = L → i = pre.length → (∀ t ∈ suf, deepExpOK t) → 0 ≤ n → n < 2^40 → Exp.sizes suf < 2^40 →
    tree_deepExp_l0 (.val (.int .i64 n)) x (.val (.int .i64 L.length)) (.val (.int .i64 i)) s = some (.ret (.val (.int .i64 (deepExps suf n + 1))), s)
  | [], pre, n, s, i, h, hi, H, h0, h1, h2 => by
    subst hi
    rw [tree_deepExp_l0_eq]; simp only [go_sem, end_facts (by simpa using h)]
    rw [wrap64 (by omega) (by omega)]; rfl
  | t :: suf, pre, n, s, i, h, hi, H, h0, h1, h2 => by
    subst hi
    obtain ⟨f1, f2, f3⟩ := step_facts hx h (by omega) (Exp.cells_len t) (by decide)
    have ht := deepExp_le t
    have hm := maxI_le n (deepExp t) (2^40 - 1)
    have hn := le_maxI n (deepExp t)
    simp only [Exp.sizes] at h2
    rw [tree_deepExp_l0_eq]; simp only [go_sem, Nat.reduceAdd, Nat.reduceLeDiff, f1, f2, f3, H t (List.mem_cons_self) s]
    exact tree_deepExp_loop L x hx hl suf (pre ++ [t]) _ s _ (by simpa using h) (by simp) (fun u hu => H u (List.mem_cons_of_mem _ hu)) (by omega) (by omega) (by omega)
theorem tree_deepCases_loop (L : List Case) (x : Slot) (hx : x.list? = some (L.map Case.enc)) (hl : L.length < 2^40) : ∀ (suf pre : List Case) (n : Int) (s : St) (i : Nat), pre ++ suf = L → i = pre.length → (∀ t ∈ suf, deepExpOK t.exp) → 0 ≤ n → n < 2^40 → Case.sizes suf < 2^40 →
    tree_deepCases_l0 (.val (.int .i64 n)) x (.val (.int .i64 L.length)) (.val (.int .i64 i)) s = some (.ret (.val (.int .i64 (deepCases suf n))), s)
  | [], pre, n, s, i, h, hi, H, h0, h1, h2 => by
    subst hi
    rw [tree_deepCases_l0_eq]; simp only [go_sem, end_facts (by simpa using h)]; rfl
  | .mk p e :: suf, pre, n, s, i, h, hi, H, h0, h1, h2 => by
    subst hi
    obtain ⟨f1, f2, f3⟩ := step_facts hx h (by omega) (Case.cells_len (.mk p e)) (by decide)
    have ht := deepExp_le e
    have hp := deepPat_le p
    simp only [Case.sizes, Case.size] at h2
    have h4 := le_maxI n (deepPat p)
    have h5 := le_maxI (maxI n (deepPat p)) (deepExp e)
    have h6 := maxI_le n (deepPat p) (2^40 - 1) (by omega) (by omega)
    have h7 := maxI_le (maxI n (deepPat p)) (deepExp e) (2^40 - 1) (by omega) (by omega)
    have He : deepExpOK e := H (.mk p e) (List.mem_cons_self)
    rw [tree_deepCases_l0_eq]; simp only [go_sem, Nat.reduceAdd, Nat.reduceLeDiff, Nat.reduceSub, f1, f2, f3, tree_deepPat_spec _ p _ (Nat.le_refl _) (show p.size < 2^40 by omega), He s]
    exact tree_deepCases_loop L x hx hl suf (pre ++ [.mk p e]) _ s _ (by simpa using h) (by simp) (fun u hu => H u (List.mem_cons_of_mem _ hu)) (by omega) (by omega) (by omega)
theorem tree_deepDecs_l2_loop (L : List Con) (x : Slot) (hx : x.list? = some (L.map Con.enc)) (hl : L.length < 2^40) (y1 x11 x12 : Slot) (n0 : Int) (j : Nat) : ∀ (suf pre : List Con) (n : Int) (s : St) (i : Nat), pre ++ suf = L → i = pre.length → 0 ≤ n → n < 2^40 → Con.sizes suf < 2^40 → j < 2^40 →
    tree_deepDecs_l2 (.val (.int .i64 n0)) (.val (.int .i64 n)) x11 x12 (.val (.int .i64 j)) x (.val (.int .i64 L.length)) (.val (.int .i64 i)) s = tree_deepDecs_l0 (.val (.int .i64 (maxI n0 (deepCons suf n + 1)))) x11 x12 (.val (.int .i64 (j + 1 : Nat))) s
  | [], pre, n, s, i, h, hi, h0, h1, h2, hj => by
    subst hi
    rw [tree_deepDecs_l2_eq]; simp only [go_sem, end_facts (by simpa using h)]
    rw [wrap64 (n := n + 1) (by omega) (by omega), wrap64 (by omega) (by omega)]; rfl
  | c :: suf, pre, n, s, i, h, hi, h0, h1, h2, hj => by
    subst hi
    obtain ⟨f1, f2, f3⟩ := step_facts hx h (by omega) (Con.cells_len c) (by decide)
    have ht := deepTy_le c.arg
    simp only [Con.sizes, Con.size] at h2
    have hm := maxI_le n (deepTy c.arg) (2^40 - 1)
    have hn := le_maxI n (deepTy c.arg)
    obtain ⟨nm, a, hs, arg⟩ := c
    dsimp only at ht hm hn h2
    rw [tree_deepDecs_l2_eq]; simp only [go_sem, Nat.reduceAdd, Nat.reduceLeDiff, f1, f2, f3, Con.cells]
    cases hs with
    | false =>
      simp only [go_sem]
      exact tree_deepDecs_l2_loop L x hx hl y1 x11 x12 n0 j suf (pre ++ [_]) n s _ (by simpa using h) (by simp) (by omega) (by omega) (by omega) hj
    | true =>
      simp only [go_sem, tree_deepTy_spec _ arg _ (Nat.le_refl _) (show arg.size < 2^40 by omega)]
      exact tree_deepDecs_l2_loop L x hx hl y1 x11 x12 n0 j suf (pre ++ [_]) _ s _ (by simpa using h) (by simp) (by omega) (by omega) (by omega) hj
theorem tree_deepDecs_l1_loop (L : List Fun) (x : Slot) (hx : x.list? = some (L.map Fun.enc)) (hl : L.length < 2^40) (d : Dec) (x11 x12 : Slot) (n0 : Int) (j : Nat) (hd : Con.sizes d.cons < 2^40) : ∀ (suf pre : List Fun) (n : Int) (s : St) (i : Nat), pre ++ suf = L → i = pre.length → (∀ t ∈ suf, deepCasesOK [t.case]) → 0 ≤ n → n < 2^40 → Fun.sizes suf < 2^40 → j < 2^40 →
    tree_deepDecs_l1 (.val (.int .i64 n0)) (d.cells.map .val) (.val (.int .i64 n)) x11 x12 (.val (.int .i64 j)) x (.val (.int .i64 L.length)) (.val (.int .i64 i)) s = tree_deepDecs_l0 (.val (.int .i64 (maxI n0 (deepCons d.cons (deepFuns suf n) + 1)))) x11 x12 (.val (.int .i64 (j + 1 : Nat))) s
  | [], pre, n, s, i, h, hi, H, h0, h1, h2, hj => by
    subst hi
    have hc := Con.len_sizes d.cons
    rw [tree_deepDecs_l1_eq]; simp only [go_sem, end_facts (by simpa using h), Dec.cells_eq]
    exact tree_deepDecs_l2_loop d.cons _ (by simp only [go_sem]) (by omega) x x11 x12 n0 j d.cons [] n s 0 rfl rfl h0 h1 hd hj
  | .mk nm a c :: suf, pre, n, s, i, h, hi, H, h0, h1, h2, hj => by
    subst hi
    obtain ⟨f1, f2, f3⟩ := step_facts hx h (by omega) (Fun.cells_len (.mk nm a c)) (by decide)
    have ht := deepCase_le c
    simp only [Fun.sizes, Fun.size] at h2
    have hm := maxI_le n (deepCase c) (2^40 - 1)
    have hn := le_maxI n (deepCase c)
    have hc : ∀ s, cw (.f F_tree_deepCases) [.sl [c.enc]] s = some (.ret (.val (.int .i64 (deepCase c))), s) := fun s => by
      rw [H (.mk nm a c) (List.mem_cons_self) (.sl [c.enc]) s (by simp only [go_sem]; rfl)]
      obtain ⟨p, e⟩ := c
      simp only [Fun.case, deepCases, deepCase]
    rw [tree_deepDecs_l1_eq]; simp only [go_sem, Nat.reduceAdd, Nat.reduceLeDiff, f1, f2, f3, hc]
    exact tree_deepDecs_l1_loop L x hx hl d x11 x12 n0 j hd suf (pre ++ [_]) _ s _ (by simpa using h) (by simp) (fun u hu => H u (List.mem_cons_of_mem _ hu)) (by omega) (by omega) (by omega) hj
theorem tree_deepDecs_loop (L : List Dec) (x : Slot) (hx : x.list? = some (L.map Dec.enc)) (hl : L.length < 2^40) : ∀ (suf pre : List Dec) (n : Int) (s : St) (i : Nat), pre ++ suf = L → i = pre.length → (∀ d ∈ suf, deepCasesOK d.case ∧ ∀ f ∈ d.funs, deepCasesOK [f.case]) → 0 ≤ n → n < 2^40 → Dec.sizes suf < 2^40 →
    tree_deepDecs_l0 (.val (.int .i64 n)) x (.val (.int .i64 L.length)) (.val (.int .i64 i)) s = some (.ret (.val (.int .i64 (deepDecs suf n))), s)
  | [], pre, n, s, i, h, hi, H, h0, h1, h2 => by
    subst hi
    rw [tree_deepDecs_l0_eq]; simp only [go_sem, end_facts (by simpa using h)]; rfl
  | .mk k a nm p l nb c cb f fb :: suf, pre, n, s, i, h, hi, H, h0, h1, h2 => by
    subst hi
    obtain ⟨f1, f2, f3⟩ := step_facts hx h (by omega) (Dec.cells_len (.mk k a nm p l nb c cb f fb)) (by decide)
    obtain ⟨hC, hF⟩ := H (.mk k a nm p l nb c cb f fb) (List.mem_cons_self)
    simp only [Dec.case, Dec.funs] at hC hF
    simp only [Dec.sizes, Dec.size] at h2
    have g1 := deepCases_le c 0
    have g2 := deepFuns_le f (deepCases c 0)
    have g3 := deepCons_le l (deepFuns f (deepCases c 0))
    have g5 := le_maxI n (deepCons l (deepFuns f (deepCases c 0)) + 1)
    have g6 := maxI_le n (deepCons l (deepFuns f (deepCases c 0)) + 1) (2^40 - 1) (by omega) (by omega)
    have g7 := Fun.len_sizes f
    have hlen : pre.length < L.length := by rw [← h]; simp
    have hc1 := fun s => hC (encS cb (c.map Case.enc)) s (by simp only [go_sem])
    rw [tree_deepDecs_l0_eq]; simp only [go_sem, Nat.reduceAdd, Nat.reduceLeDiff, f1, f2, hc1]
    have := tree_deepDecs_l1_loop f (.val (encS fb (f.map Fun.enc))) (by simp only [go_sem]) (by omega) (.mk k a nm p l nb c cb f fb) x (.val (.int .i64 L.length)) n pre.length (by simp only [Dec.cons]; omega) f [] (deepCases c 0) s 0 rfl rfl hF (by omega) (by omega) (by omega) (by omega)
    simp only [go_sem, Dec.cons] at this
    rw [show ((0 : Nat) : Int) = 0 from rfl] at this
    rw [this]
    exact tree_deepDecs_loop L x hx hl suf (pre ++ [_]) _ s _ (by simpa using h) (by simp) (fun u hu => H u (List.mem_cons_of_mem _ hu)) (by omega) (by omega) (by omega)
theorem tree_deep_all : ∀ m : Nat, (∀ e : Exp, e.size ≤ m → e.size < 2^40 → deepExpOK e) ∧ (∀ l : List Case, Case.sizes l ≤ m → Case.sizes l < 2^40 → deepCasesOK l) ∧ (∀ l : List Dec, Dec.sizes l ≤ m → Dec.sizes l < 2^40 → deepDecsOK l) := by
  intro m
  induction m with
  | zero =>
    refine ⟨fun e h _ => ?_, fun l h _ v s hv => ?_, fun l h _ v s hv => ?_⟩
    · obtain ⟨k, a, nm, n, l, lb, c, cb, d, db⟩ := e
      simp only [Exp.size] at h; omega
    · cases l with
      | cons c l => obtain ⟨p, e⟩ := c; simp only [Case.sizes, Case.size] at h; omega
      | nil =>
        rw [tree_deepCases_eq]; simp only [go_sem, hv]
        exact tree_deepCases_loop [] _ hv (by decide) [] [] 0 s 0 rfl rfl (by simp) (by decide) (by decide) (by simp only [Case.sizes]; decide)
    · cases l with
      | cons c l => obtain ⟨k, a, nm, p, l, nb, c, cb, f, fb⟩ := c; simp only [Dec.sizes, Dec.size] at h; omega
      | nil =>
        rw [tree_deepDecs_eq]; simp only [go_sem, hv]
        exact tree_deepDecs_loop [] _ hv (by decide) [] [] 0 s 0 rfl rfl (by simp) (by decide) (by decide) (by simp only [Dec.sizes]; decide)
  | succ m ih =>
    obtain ⟨ihE, ihC, ihD⟩ := ih
    have hC : ∀ l : List Case, Case.sizes l ≤ m + 1 → Case.sizes l < 2^40 → deepCasesOK l := fun l h h' v s hv => by
      have := Case.len_sizes l
      rw [tree_deepCases_eq]; simp only [go_sem, hv]
      exact tree_deepCases_loop l _ hv (by omega) l [] 0 s 0 rfl rfl (fun t ht => ihE t.exp (by have := Case.mem_sizes ht; obtain ⟨p, e⟩ := t; simp only [Case.size, Case.exp] at *; omega) (by have := Case.mem_sizes ht; obtain ⟨p, e⟩ := t; simp only [Case.size, Case.exp] at *; omega)) (by decide) (by decide) h'
    refine ⟨fun e h h' s => ?_, hC, fun l h h' v s hv => ?_⟩
    · obtain ⟨k, a, nm, n, l, lb, c, cb, d, db⟩ := e
      simp only [Exp.size] at h h'
      have hl := Exp.len_sizes l
      have g1 := deepDecs_le d 0
      have g2 := deepCases_le c 0
      have g3 := maxI_le (deepDecs d 0) (deepCases c 0) (2^40 - 1) (by omega) (by omega)
      have g4 := le_maxI (deepDecs d 0) (deepCases c 0)
      have hD := fun s => ihD d (by omega) (by omega) (encS db (d.map Dec.enc)) s (by simp only [go_sem])
      have hCc := fun s => ihC c (by omega) (by omega) (encS cb (c.map Case.enc)) s (by simp only [go_sem])
      rw [tree_deepExp_eq]; simp only [go_sem, Nat.reduceAdd, Nat.reduceLeDiff, Exp.enc, hD, hCc]
      exact tree_deepExp_loop l _ (by simp only [go_sem]) (by omega) l [] _ s 0 rfl rfl (fun t ht => ihE t (by have := Exp.mem_sizes ht; omega) (by have := Exp.mem_sizes ht; omega)) (by omega) (by omega) (by omega)
    · have := Dec.len_sizes l
      rw [tree_deepDecs_eq]; simp only [go_sem, hv]
      refine tree_deepDecs_loop l _ hv (by omega) l [] 0 s 0 rfl rfl (fun t ht => ?_) (by decide) (by decide) h'
      have h1 := Dec.mem_sizes ht
      obtain ⟨k, a, nm, p, l, nb, c, cb, f, fb⟩ := t
      simp only [Dec.size] at h1
      refine ⟨ihC c (by omega) (by omega), fun g hg => ?_⟩
      have h2 := Fun.mem_sizes hg
      obtain ⟨nm, a, c'⟩ := g
      simp only [Dec.funs, Fun.size] at h2
      exact ihC [c'] (by simp only [Case.sizes]; omega) (by simp only [Case.sizes]; omega)
theorem tree_deepExp_spec (e : Exp) (s : St) (h : e.size < 2^40) : cw (.f F_tree_deepExp) [e.enc] s = some (.ret (.val (.int .i64 (deepExp e))), s) := (tree_deep_all e.size).1 e (Nat.le_refl _) h s
theorem tree_deepDecs_spec (l : List Dec) (nl : Bool) (s : St) (h : Dec.sizes l < 2^40) : cw (.f F_tree_deepDecs) [encS nl (l.map Dec.enc)] s = some (.ret (.val (.int .i64 (deepDecs l 0))), s) := (tree_deep_all (Dec.sizes l)).2.2 l (Nat.le_refl _) h _ s (by simp only [go_sem])
end Go.Proofs.YtinphnakebeloaaGreat

namespace Go.Proofs.YtinphnakebeloaaGreat
open Go Go.Am
set_option linter.unusedVariables false
set_option maxRecDepth 4000
section
variable {σ : Type} (step : TNode → σ → σ × Bool)
def walk : List TNode → σ → σ × Bool
  | [], st => (st, true)
  | n :: l, st => bif (step n st).2 then walk l (step n st).1 else step n st
theorem walk_app (a b : List TNode) (st : σ) : walk step (a ++ b) st = bif (walk step a st).2 then walk step b (walk step a st).1 else walk step a st := by
  induction a generalizing st with
  | nil => rfl
  | cons n a ih =>
    simp only [List.cons_append, walk]
    cases h : (step n st).2
    · simp only [cond_false, h]
    · simp only [cond_true]; exact ih _
variable (R : σ × Bool → St → Prop) (P : TNode → Prop) (loc : Nat)
def YOK : Prop := ∀ nd r st s, P nd → R (st, true) s → ∃ s', cw (.y loc) [nd.thing r] s = some (.ret (.val (.bool (step nd st).2)), s') ∧ R (step nd st) s'
def WOK (f : Nat) (args : List AV) (l : List TNode) : Prop := (∀ n ∈ l, P n) → ∀ st s, R (st, true) s → ∃ s', cw (.f f) args s = some (.ret (.val (.bool (walk step l st).2)), s') ∧ R (walk step l st) s'
abbrev wk : AV := .agg [.yld loc]
variable {step} {R} {P} {loc}
theorem on_true {st : σ × Bool} {s' : St} (hb : st.2 = true) (h : R st s') : R (st.1, true) s' := by rw [← hb]; exact h
theorem walker_types_loop (hY : YOK step R P loc) (a : Int) (t : Ty) (r : List AV) (hl : t.args.length < 2^40) : ∀ (suf pre : List Ty) (st : σ) (s : St) (i : Nat), pre ++ suf = t.args → i = pre.length → (∀ u ∈ suf, ∀ r, WOK step R P F_tree_walker_types [wk loc, .cp (u.cells ++ r), .int .i64 a] (nodesTy a u)) → (∀ n ∈ nodesTys a suf, P n) → R (st, true) s →
    ∃ s', tree_walker_types_l0 (.val (.cp (t.cells ++ r))) (.val (.int .i64 a)) [.val (.yld loc)] (.val (.int .i64 t.args.length)) (.val (.int .i64 i)) s = some (.ret (.val (.bool (walk step (nodesTys a suf) st).2)), s') ∧ R (walk step (nodesTys a suf) st) s'
  | [], pre, st, s, i, h, hi, H, hP, hR => by
    subst hi
    rw [tree_walker_types_l0_eq]; simp only [go_sem, Nat.reduceAdd, Nat.reduceLeDiff, end_facts (by simpa using h), nodesTys, walk]
    exact ⟨s, rfl, hR⟩
  | u :: suf, pre, st, s, i, h, hi, H, hP, hR => by
    subst hi
    obtain ⟨f1, f2, f3⟩ := step_facts (x := .val (encS t.nl (t.args.map Ty.enc))) (list?_encS _ _) h (by omega) (Ty.cells_len u) (by decide)
    simp only [nodesTys] at hP ⊢
    obtain ⟨s1, e1, g1⟩ := H u (List.mem_cons_self) [] (fun n hn => hP n (List.mem_append_left _ hn)) st s hR
    rw [tree_walker_types_l0_eq]
    rw [walk_app]
    cases hb : (walk step (nodesTy a u) st).2 with
    | false =>
      rw [hb] at e1
      simp only [go_sem, Nat.reduceAdd, Nat.reduceLeDiff, Ty.cells_eq, f1] at e1 f2 ⊢
      simp only [go_sem, Nat.reduceAdd, Nat.reduceLeDiff, f2, e1, hb]
      exact ⟨s1, rfl, g1⟩
    | true =>
      rw [hb] at e1
      obtain ⟨s2, e2, g2⟩ := walker_types_loop hY a t r hl suf (pre ++ [u]) (walk step (nodesTy a u) st).1 s1 (pre.length + 1) (by simpa using h) (by simp) (fun w hw => H w (List.mem_cons_of_mem _ hw)) (fun n hn => hP n (List.mem_append_right _ hn)) (on_true hb g1)
      refine ⟨s2, ?_, g2⟩
      rw [cond_true, ← e2]
      simp only [go_sem, Nat.reduceAdd, Nat.reduceLeDiff, Ty.cells_eq, f1] at e1 f2 ⊢
      simp only [go_sem, Nat.reduceAdd, Nat.reduceLeDiff, f2, e1, f3]
theorem walker_types_spec (hY : YOK step R P loc) : ∀ (m : Nat) (a : Int) (t : Ty) (r : List AV), t.size ≤ m → t.size < 2^40 → WOK step R P F_tree_walker_types [wk loc, .cp (t.cells ++ r), .int .i64 a] (nodesTy a t)
  | 0, a, .mk _ _ _ _ _, _, h, _ => by simp only [Ty.size] at h; omega
  | m + 1, a, .mk k n nm l nl, r, h, h' => fun hP st s hR => by
    simp only [Ty.size] at h h'
    have hl := Ty.len_sizes l
    simp only [nodesTy] at hP ⊢
    obtain ⟨s1, e1, g1⟩ := hY (.ty (.mk k n nm l nl) a) r st s (hP _ (List.mem_cons_self)) hR
    rw [tree_walker_types_eq]
    simp only [walk]
    cases hb : (step (.ty (.mk k n nm l nl) a) st).2 with
    | false =>
      rw [hb] at e1
      simp only [go_sem, Nat.reduceAdd, Nat.reduceLeDiff, TNode.thing] at e1 ⊢
      simp only [go_sem, e1, hb]
      exact ⟨s1, rfl, g1⟩
    | true =>
      rw [hb] at e1
      obtain ⟨s2, e2, g2⟩ := walker_types_loop hY a (.mk k n nm l nl) r (by simp only [Ty.args]; omega) l [] (step (.ty (.mk k n nm l nl) a) st).1 s1 0 rfl rfl (fun u hu r => by have := Ty.mem_sizes hu; exact walker_types_spec hY m a u r (by omega) (by omega)) (fun n hn => hP n (List.mem_cons_of_mem _ hn)) (on_true hb g1)
      refine ⟨s2, ?_, g2⟩
      rw [cond_true, ← e2]
      simp only [go_sem, Nat.reduceAdd, Nat.reduceLeDiff, TNode.thing] at e1 ⊢
      simp only [go_sem, e1, Ty.args]
      rfl
theorem walker_pats_loop (hY : YOK step R P loc) (t : Pat) (r : List AV) (hl : t.kids.length < 2^40) : ∀ (suf pre : List Pat) (st : σ) (s : St) (i : Nat), pre ++ suf = t.kids → i = pre.length → (∀ u ∈ suf, ∀ r, WOK step R P F_tree_walker_pats [wk loc, .cp (u.cells ++ r)] (nodesPat u)) → (∀ n ∈ nodesPats suf, P n) → R (st, true) s →
    ∃ s', tree_walker_pats_l0 (.val (.cp (t.cells ++ r))) [.val (.yld loc)] (.val (.int .i64 t.kids.length)) (.val (.int .i64 i)) s = some (.ret (.val (.bool (walk step (nodesPats suf) st).2)), s') ∧ R (walk step (nodesPats suf) st) s'
  | [], pre, st, s, i, h, hi, H, hP, hR => by
    subst hi
    rw [tree_walker_pats_l0_eq]; simp only [go_sem, Nat.reduceAdd, Nat.reduceLeDiff, end_facts (by simpa using h), nodesPats, walk]
    exact ⟨s, rfl, hR⟩
  | u :: suf, pre, st, s, i, h, hi, H, hP, hR => by
    subst hi
    obtain ⟨f1, f2, f3⟩ := step_facts (x := .val (encS t.kb (t.kids.map Pat.enc))) (list?_encS _ _) h (by omega) (Pat.cells_len u) (by decide)
    simp only [nodesPats] at hP ⊢
    obtain ⟨s1, e1, g1⟩ := H u (List.mem_cons_self) [] (fun n hn => hP n (List.mem_append_left _ hn)) st s hR
    rw [tree_walker_pats_l0_eq]
    rw [walk_app]
    cases hb : (walk step (nodesPat u) st).2 with
    | false =>
      rw [hb] at e1
      simp only [go_sem, Nat.reduceAdd, Nat.reduceLeDiff, Pat.cells_eq, f1] at e1 f2 ⊢
      simp only [go_sem, Nat.reduceAdd, Nat.reduceLeDiff, f2, e1, hb]
      exact ⟨s1, rfl, g1⟩
    | true =>
      rw [hb] at e1
      obtain ⟨s2, e2, g2⟩ := walker_pats_loop hY t r hl suf (pre ++ [u]) (walk step (nodesPat u) st).1 s1 (pre.length + 1) (by simpa using h) (by simp) (fun w hw => H w (List.mem_cons_of_mem _ hw)) (fun n hn => hP n (List.mem_append_right _ hn)) (on_true hb g1)
      refine ⟨s2, ?_, g2⟩
      rw [cond_true, ← e2]
      simp only [go_sem, Nat.reduceAdd, Nat.reduceLeDiff, Pat.cells_eq, f1] at e1 f2 ⊢
      simp only [go_sem, Nat.reduceAdd, Nat.reduceLeDiff, f2, e1, f3]
theorem walker_pats_spec (hY : YOK step R P loc) : ∀ (m : Nat) (t : Pat) (r : List AV), t.size ≤ m → t.size < 2^40 → WOK step R P F_tree_walker_pats [wk loc, .cp (t.cells ++ r)] (nodesPat t)
  | 0, .mk _ _ _ _ _ _, _, h, _ => by simp only [Pat.size] at h; omega
  | m + 1, .mk k a nm n l nl, r, h, h' => fun hP st s hR => by
    simp only [Pat.size] at h h'
    have hl := Pat.len_sizes l
    simp only [nodesPat] at hP ⊢
    obtain ⟨s1, e1, g1⟩ := hY (.pat (.mk k a nm n l nl)) r st s (hP _ (List.mem_cons_self)) hR
    rw [tree_walker_pats_eq]
    simp only [walk]
    cases hb : (step (.pat (.mk k a nm n l nl)) st).2 with
    | false =>
      rw [hb] at e1
      simp only [go_sem, Nat.reduceAdd, Nat.reduceLeDiff, TNode.thing, Pat.at_] at e1 ⊢
      simp only [go_sem, e1, hb]
      exact ⟨s1, rfl, g1⟩
    | true =>
      rw [hb] at e1
      obtain ⟨s2, e2, g2⟩ := walker_pats_loop hY (.mk k a nm n l nl) r (by simp only [Pat.kids]; omega) l [] (step (.pat (.mk k a nm n l nl)) st).1 s1 0 rfl rfl (fun u hu r => by have := Pat.mem_sizes hu; exact walker_pats_spec hY m u r (by omega) (by omega)) (fun n hn => hP n (List.mem_cons_of_mem _ hn)) (on_true hb g1)
      refine ⟨s2, ?_, g2⟩
      rw [cond_true, ← e2]
      simp only [go_sem, Nat.reduceAdd, Nat.reduceLeDiff, TNode.thing, Pat.at_] at e1 ⊢
      simp only [go_sem, e1, Pat.kids]
      rfl
def WExp (step : TNode → σ → σ × Bool) (R : σ × Bool → St → Prop) (P : TNode → Prop) (loc : Nat) (t : Exp) : Prop := ∀ r, WOK step R P F_tree_walker_exps [wk loc, .cp (t.cells ++ r)] (nodesExp t)
def WCases (step : TNode → σ → σ × Bool) (R : σ × Bool → St → Prop) (P : TNode → Prop) (loc : Nat) (l : List Case) : Prop := ∀ v, (Slot.val v).list? = some (l.map Case.enc) → WOK step R P F_tree_walker_cases [wk loc, v] (nodesCases l)
def WDecs (step : TNode → σ → σ × Bool) (R : σ × Bool → St → Prop) (P : TNode → Prop) (loc : Nat) (l : List Dec) : Prop := ∀ v inn, (Slot.val v).list? = some (l.map Dec.enc) → WOK step R P F_tree_walker_decs [wk loc, v, .bool inn] (nodesDecs inn l)
theorem walker_cases_loop (hY : YOK step R P loc) (L : List Case) (x : Slot) (hx : x.list? = some (L.map Case.enc)) (hl : L.length < 2^40) : ∀ (suf pre : List Case) (st : σ) (s : St) (i : Nat), pre ++ suf = L → i = pre.length → (∀ u ∈ suf, WExp step R P loc u.exp ∧ u.size < 2^40) → (∀ n ∈ nodesCases suf, P n) → R (st, true) s →
    ∃ s', tree_walker_cases_l0 x [.val (.yld loc)] (.val (.int .i64 L.length)) (.val (.int .i64 i)) s = some (.ret (.val (.bool (walk step (nodesCases suf) st).2)), s') ∧ R (walk step (nodesCases suf) st) s'
  | [], pre, st, s, i, h, hi, H, hP, hR => by
    subst hi
    rw [tree_walker_cases_l0_eq]; simp only [go_sem, Nat.reduceAdd, Nat.reduceLeDiff, end_facts (by simpa using h), nodesCases, walk]
    exact ⟨s, rfl, hR⟩
  | .mk p e :: suf, pre, st, s, i, h, hi, H, hP, hR => by
    subst hi
    obtain ⟨f1, f2, f3⟩ := step_facts hx h (by omega) (Case.cells_len (.mk p e)) (by decide)
    simp only [nodesCases, nodesCase] at hP ⊢
    obtain ⟨hE, hsz⟩ := H (.mk p e) (List.mem_cons_self)
    simp only [Case.exp, Case.size] at hE hsz
    obtain ⟨s1, e1, g1⟩ := walker_pats_spec hY _ p e.cells (Nat.le_refl _) (by omega) (fun n hn => hP n (List.mem_append_left _ (List.mem_append_left _ hn))) st s hR
    rw [tree_walker_cases_l0_eq]
    rw [walk_app, walk_app]
    cases hb : (walk step (nodesPat p) st).2 with
    | false =>
      rw [hb] at e1
      simp only [go_sem, Nat.reduceAdd, Nat.reduceLeDiff, f1, f2, e1, hb]
      exact ⟨s1, rfl, g1⟩
    | true =>
      rw [hb] at e1
      rw [cond_true]
      obtain ⟨s2, e2, g2⟩ := hE [] (fun n hn => hP n (List.mem_append_left _ (List.mem_append_right _ hn))) (walk step (nodesPat p) st).1 s1 (on_true hb g1)
      cases hb2 : (walk step (nodesExp e) (walk step (nodesPat p) st).1).2 with
      | false =>
        rw [hb2] at e2
        simp only [go_sem] at e2
        simp only [go_sem, Nat.reduceAdd, Nat.reduceLeDiff, Nat.reduceSub, f1, f2, e1, e2, hb2]
        exact ⟨s2, rfl, g2⟩
      | true =>
        rw [hb2] at e2
        obtain ⟨s3, e3, g3⟩ := walker_cases_loop hY L x hx hl suf (pre ++ [.mk p e]) (walk step (nodesExp e) (walk step (nodesPat p) st).1).1 s2 (pre.length + 1) (by simpa using h) (by simp) (fun w hw => H w (List.mem_cons_of_mem _ hw)) (fun n hn => hP n (List.mem_append_right _ hn)) (on_true hb2 g2)
        refine ⟨s3, ?_, g3⟩
        rw [cond_true, ← e3]
        simp only [go_sem] at e2
        simp only [go_sem, Nat.reduceAdd, Nat.reduceLeDiff, Nat.reduceSub, f1, f2, e1, e2, f3]
theorem walker_exps_loop (hY : YOK step R P loc) (t : Exp) (r : List AV) (hl : t.kids.length < 2^40) (HC : WCases step R P loc t.cases) : ∀ (suf pre : List Exp) (st : σ) (s : St) (i : Nat), pre ++ suf = t.kids → i = pre.length → (∀ u ∈ suf, WExp step R P loc u) → (∀ n ∈ nodesExps suf ++ nodesCases t.cases, P n) → R (st, true) s →
    ∃ s', tree_walker_exps_l0 (.val (.cp (t.cells ++ r))) [.val (.yld loc)] (.val (.int .i64 t.kids.length)) (.val (.int .i64 i)) s = some (.ret (.val (.bool (walk step (nodesExps suf ++ nodesCases t.cases) st).2)), s') ∧ R (walk step (nodesExps suf ++ nodesCases t.cases) st) s'
  | [], pre, st, s, i, h, hi, H, hP, hR => by
    subst hi
    simp only [nodesExps, List.nil_append] at hP ⊢
    obtain ⟨s1, e1, g1⟩ := HC (encS t.cb (t.cases.map Case.enc)) (by simp only [go_sem]) hP st s hR
    rw [tree_walker_exps_l0_eq]; simp only [go_sem, Nat.reduceAdd, Nat.reduceLeDiff, Exp.cells_eq, end_facts (by simpa using h), e1]
    exact ⟨s1, rfl, g1⟩
  | u :: suf, pre, st, s, i, h, hi, H, hP, hR => by
    subst hi
    obtain ⟨f1, f2, f3⟩ := step_facts (x := .val (encS t.kb (t.kids.map Exp.enc))) (list?_encS _ _) h (by omega) (Exp.cells_len u) (by decide)
    simp only [nodesExps, List.append_assoc] at hP ⊢
    obtain ⟨s1, e1, g1⟩ := H u (List.mem_cons_self) [] (fun n hn => hP n (List.mem_append_left _ hn)) st s hR
    rw [tree_walker_exps_l0_eq]
    rw [walk_app]
    cases hb : (walk step (nodesExp u) st).2 with
    | false =>
      rw [hb] at e1
      simp only [go_sem, Nat.reduceAdd, Nat.reduceLeDiff, Exp.cells_eq, f1] at e1 f2 ⊢
      simp only [go_sem, Nat.reduceAdd, Nat.reduceLeDiff, f2, e1, hb]
      exact ⟨s1, rfl, g1⟩
    | true =>
      rw [hb] at e1
      obtain ⟨s2, e2, g2⟩ := walker_exps_loop hY t r hl HC suf (pre ++ [u]) (walk step (nodesExp u) st).1 s1 (pre.length + 1) (by simpa using h) (by simp) (fun w hw => H w (List.mem_cons_of_mem _ hw)) (fun n hn => hP n (List.mem_append_right _ hn)) (on_true hb g1)
      refine ⟨s2, ?_, g2⟩
      rw [cond_true, ← e2]
      simp only [go_sem, Nat.reduceAdd, Nat.reduceLeDiff, Exp.cells_eq, f1] at e1 f2 ⊢
      simp only [go_sem, Nat.reduceAdd, Nat.reduceLeDiff, f2, e1, f3]
theorem walker_exp_of (hY : YOK step R P loc) (t : Exp) (hl : t.kids.length < 2^40) (HD : WDecs step R P loc t.decs) (HC : WCases step R P loc t.cases) (HE : ∀ u ∈ t.kids, WExp step R P loc u) : WExp step R P loc t := fun r hP st s hR => by
  obtain ⟨k, a, nm, n, l, lb, c, cb, d, db⟩ := t
  simp only [Exp.kids, Exp.cases, Exp.decs] at hl HD HC HE
  simp only [nodesExp] at hP ⊢
  obtain ⟨s1, e1, g1⟩ := hY (.exp (.mk k a nm n l lb c cb d db)) r st s (hP _ (List.mem_cons_self)) hR
  rw [tree_walker_exps_eq]
  simp only [walk]
  cases hb : (step (.exp (.mk k a nm n l lb c cb d db)) st).2 with
  | false =>
    rw [hb] at e1
    simp only [go_sem, Nat.reduceAdd, Nat.reduceLeDiff, TNode.thing, Exp.at_] at e1 ⊢
    simp only [go_sem, e1, hb]
    exact ⟨s1, rfl, g1⟩
  | true =>
    rw [hb] at e1
    rw [cond_true, walk_app]
    obtain ⟨s2, e2, g2⟩ := HD (encS db (d.map Dec.enc)) true (by simp only [go_sem]) (fun n hn => hP n (List.mem_cons_of_mem _ (List.mem_append_left _ hn))) (step (.exp (.mk k a nm n l lb c cb d db)) st).1 s1 (on_true hb g1)
    cases hb2 : (walk step (nodesDecs true d) (step (.exp (.mk k a nm n l lb c cb d db)) st).1).2 with
    | false =>
      rw [hb2] at e2
      simp only [go_sem, Nat.reduceAdd, Nat.reduceLeDiff, TNode.thing, Exp.at_] at e1 ⊢
      simp only [go_sem, e1, e2, hb2]
      exact ⟨s2, rfl, g2⟩
    | true =>
      rw [hb2] at e2
      obtain ⟨s3, e3, g3⟩ := walker_exps_loop hY (.mk k a nm n l lb c cb d db) r (by simp only [Exp.kids]; omega) HC l [] (walk step (nodesDecs true d) (step (.exp (.mk k a nm n l lb c cb d db)) st).1).1 s2 0 rfl rfl HE (fun n hn => hP n (List.mem_cons_of_mem _ (List.mem_append_right _ hn))) (on_true hb2 g2)
      refine ⟨s3, ?_, g3⟩
      simp only [Exp.cases] at e3
      rw [cond_true, ← e3]
      simp only [go_sem, Nat.reduceAdd, Nat.reduceLeDiff, TNode.thing, Exp.at_] at e1 ⊢
      simp only [go_sem, e1, e2, Exp.kids]
      rfl
theorem walker_decs_l2_loop (hY : YOK step R P loc) (d : Dec) (x1 x2 x14 : Slot) (j : Nat) (hj : j < 2^40) (hl : d.cons.length < 2^40) (hsz : Con.sizes d.cons < 2^40) (rest : List TNode)
    (K : ∀ st s, R (st, true) s → (∀ n ∈ rest, P n) → ∃ s', tree_walker_decs_l0 x1 x2 [.val (.yld loc)] x14 (.val (.int .i64 (j + 1 : Nat))) s = some (.ret (.val (.bool (walk step rest st).2)), s') ∧ R (walk step rest st) s') :
    ∀ (suf pre : List Con) (st : σ) (s : St) (i : Nat), pre ++ suf = d.cons → i = pre.length → Con.sizes suf < 2^40 → (∀ n ∈ nodesCons suf ++ rest, P n) → R (st, true) s →
    ∃ s', tree_walker_decs_l2 x1 x2 [.val (.yld loc)] (.val (.cp d.cells)) x14 (.val (.int .i64 j)) (.val (.int .i64 d.cons.length)) (.val (.int .i64 i)) s = some (.ret (.val (.bool (walk step (nodesCons suf ++ rest) st).2)), s') ∧ R (walk step (nodesCons suf ++ rest) st) s'
  | [], pre, st, s, i, h, hi, hz, hP, hR => by
    subst hi
    simp only [nodesCons, List.nil_append] at hP ⊢
    obtain ⟨s1, e1, g1⟩ := K st s hR hP
    refine ⟨s1, ?_, g1⟩
    rw [tree_walker_decs_l2_eq, ← e1]; simp only [go_sem, Nat.reduceAdd, Nat.reduceLeDiff, end_facts (by simpa using h)]
    rw [wrap64 (by omega) (by omega)]; rfl
  | .mk nm a hs arg :: suf, pre, st, s, i, h, hi, hz, hP, hR => by
    subst hi
    obtain ⟨f1, f2, f3⟩ := step_facts (x := .val (encS d.nb (d.cons.map Con.enc))) (list?_encS _ _) h (by omega) (Con.cells_len ⟨nm, a, hs, arg⟩) (by decide)
    simp only [Con.sizes, Con.size] at hz
    simp only [nodesCons, nodesCon, List.append_assoc, List.cons_append] at hP ⊢
    obtain ⟨s1, e1, g1⟩ := hY (.con ⟨nm, a, hs, arg⟩) [] st s (hP _ (List.mem_cons_self)) hR
    rw [tree_walker_decs_l2_eq]
    simp only [walk]
    cases hb : (step (.con ⟨nm, a, hs, arg⟩) st).2 with
    | false =>
      rw [hb] at e1
      simp only [go_sem, Nat.reduceAdd, Nat.reduceLeDiff, Dec.cells_eq, Con.cells, TNode.thing, f1] at e1 f2 ⊢
      simp only [go_sem, Nat.reduceAdd, Nat.reduceLeDiff, f2, e1, hb]
      exact ⟨s1, rfl, g1⟩
    | true =>
      rw [hb] at e1
      rw [cond_true]
      cases hs with
      | false =>
        obtain ⟨s2, e2, g2⟩ := walker_decs_l2_loop hY d x1 x2 x14 j hj hl hsz rest K suf (pre ++ [⟨nm, a, false, arg⟩]) (step (.con ⟨nm, a, false, arg⟩) st).1 s1 (pre.length + 1) (by simpa using h) (by simp) (by omega) (fun n hn => hP n (List.mem_cons_of_mem _ hn)) (on_true hb g1)
        refine ⟨s2, ?_, g2⟩
        rw [cond_false, List.nil_append, ← e2]
        simp only [go_sem, Nat.reduceAdd, Nat.reduceLeDiff, Dec.cells_eq, Con.cells, TNode.thing, f1] at e1 f2 ⊢
        simp only [go_sem, Nat.reduceAdd, Nat.reduceLeDiff, f2, e1, f3]
      | true =>
        rw [cond_true, walk_app]
        rw [cond_true] at hP
        obtain ⟨s2, e2, g2⟩ := walker_types_spec hY _ a arg [] (Nat.le_refl _) (by omega) (fun n hn => hP n (List.mem_cons_of_mem _ (List.mem_append_left _ hn))) (step (.con ⟨nm, a, true, arg⟩) st).1 s1 (on_true hb g1)
        cases hb2 : (walk step (nodesTy a arg) (step (.con ⟨nm, a, true, arg⟩) st).1).2 with
        | false =>
          rw [hb2] at e2
          simp only [go_sem] at e2
          simp only [go_sem, Nat.reduceAdd, Nat.reduceLeDiff, Dec.cells_eq, Con.cells, TNode.thing, f1] at e1 f2 ⊢
          simp only [go_sem, Nat.reduceAdd, Nat.reduceLeDiff, f2, e1, e2, hb2]
          exact ⟨s2, rfl, g2⟩
        | true =>
          rw [hb2] at e2
          obtain ⟨s3, e3, g3⟩ := walker_decs_l2_loop hY d x1 x2 x14 j hj hl hsz rest K suf (pre ++ [⟨nm, a, true, arg⟩]) (walk step (nodesTy a arg) (step (.con ⟨nm, a, true, arg⟩) st).1).1 s2 (pre.length + 1) (by simpa using h) (by simp) (by omega) (fun n hn => hP n (List.mem_cons_of_mem _ (List.mem_append_right _ hn))) (on_true hb2 g2)
          refine ⟨s3, ?_, g3⟩
          rw [cond_true, ← e3]
          simp only [go_sem] at e2
          simp only [go_sem, Nat.reduceAdd, Nat.reduceLeDiff, Dec.cells_eq, Con.cells, TNode.thing, f1] at e1 f2 ⊢
          simp only [go_sem, Nat.reduceAdd, Nat.reduceLeDiff, f2, e1, e2, f3]
theorem walker_decs_l1_loop (hY : YOK step R P loc) (d : Dec) (x1 x2 x14 : Slot) (j : Nat) (hj : j < 2^40) (hl0 : d.funs.length < 2^40) (hl : d.cons.length < 2^40) (hsz : Con.sizes d.cons < 2^40) (rest : List TNode)
    (K : ∀ st s, R (st, true) s → (∀ n ∈ rest, P n) → ∃ s', tree_walker_decs_l0 x1 x2 [.val (.yld loc)] x14 (.val (.int .i64 (j + 1 : Nat))) s = some (.ret (.val (.bool (walk step rest st).2)), s') ∧ R (walk step rest st) s') :
    ∀ (suf pre : List Fun) (st : σ) (s : St) (i : Nat), pre ++ suf = d.funs → i = pre.length → (∀ f ∈ suf, WCases step R P loc [f.case]) → (∀ n ∈ nodesFuns suf ++ (nodesCons d.cons ++ rest), P n) → R (st, true) s →
    ∃ s', tree_walker_decs_l1 x1 x2 [.val (.yld loc)] (.val (.cp d.cells)) x14 (.val (.int .i64 j)) (.val (.int .i64 d.funs.length)) (.val (.int .i64 i)) s = some (.ret (.val (.bool (walk step (nodesFuns suf ++ (nodesCons d.cons ++ rest)) st).2)), s') ∧ R (walk step (nodesFuns suf ++ (nodesCons d.cons ++ rest)) st) s'
  | [], pre, st, s, i, h, hi, H, hP, hR => by
    subst hi
    simp only [nodesFuns, List.nil_append] at hP ⊢
    obtain ⟨s1, e1, g1⟩ := walker_decs_l2_loop hY d x1 x2 x14 j hj hl hsz rest K d.cons [] st s 0 rfl rfl hsz hP hR
    refine ⟨s1, ?_, g1⟩
    rw [tree_walker_decs_l1_eq, ← e1]; simp only [go_sem, Nat.reduceAdd, Nat.reduceLeDiff, Dec.cells_eq, end_facts (by simpa using h)]
    rfl
  | .mk nm a c :: suf, pre, st, s, i, h, hi, H, hP, hR => by
    subst hi
    obtain ⟨f1, f2, f3⟩ := step_facts (x := .val (encS d.fb (d.funs.map Fun.enc))) (list?_encS _ _) h (by omega) (Fun.cells_len (.mk nm a c)) (by decide)
    simp only [nodesFuns, nodesFun, List.append_assoc, List.cons_append] at hP ⊢
    obtain ⟨s1, e1, g1⟩ := hY (.fn (.mk nm a c)) [] st s (hP _ (List.mem_cons_self)) hR
    rw [tree_walker_decs_l1_eq]
    simp only [walk]
    cases hb : (step (.fn (.mk nm a c)) st).2 with
    | false =>
      rw [hb] at e1
      simp only [go_sem, Nat.reduceAdd, Nat.reduceLeDiff, Dec.cells_eq, TNode.thing, Fun.at_, f1] at e1 f2 ⊢
      simp only [go_sem, Nat.reduceAdd, Nat.reduceLeDiff, f2, e1, hb]
      exact ⟨s1, rfl, g1⟩
    | true =>
      rw [hb] at e1
      rw [cond_true, walk_app]
      obtain ⟨s2, e2, g2⟩ := H (.mk nm a c) (List.mem_cons_self) (.sl [c.enc]) (by simp only [go_sem, Fun.case]) (fun n hn => hP n (List.mem_cons_of_mem _ (List.mem_append_left _ (by simpa [nodesCases, Fun.case] using hn)))) (step (.fn (.mk nm a c)) st).1 s1 (on_true hb g1)
      simp only [Fun.case, nodesCases, List.append_nil] at e2 g2
      cases hb2 : (walk step (nodesCase c) (step (.fn (.mk nm a c)) st).1).2 with
      | false =>
        rw [hb2] at e2
        simp only [go_sem, Nat.reduceAdd, Nat.reduceLeDiff, Dec.cells_eq, TNode.thing, Fun.at_, f1] at e1 f2 ⊢
        simp only [go_sem, Nat.reduceAdd, Nat.reduceLeDiff, f2, e1, e2, hb2]
        exact ⟨s2, rfl, g2⟩
      | true =>
        rw [hb2] at e2
        obtain ⟨s3, e3, g3⟩ := walker_decs_l1_loop hY d x1 x2 x14 j hj hl0 hl hsz rest K suf (pre ++ [.mk nm a c]) (walk step (nodesCase c) (step (.fn (.mk nm a c)) st).1).1 s2 (pre.length + 1) (by simpa using h) (by simp) (fun w hw => H w (List.mem_cons_of_mem _ hw)) (fun n hn => hP n (List.mem_cons_of_mem _ (List.mem_append_right _ hn))) (on_true hb2 g2)
        refine ⟨s3, ?_, g3⟩
        rw [cond_true, ← e3]
        simp only [go_sem, Nat.reduceAdd, Nat.reduceLeDiff, Dec.cells_eq, TNode.thing, Fun.at_, f1] at e1 f2 ⊢
        simp only [go_sem, Nat.reduceAdd, Nat.reduceLeDiff, f2, e1, e2, f3]
theorem walker_decs_loop (hY : YOK step R P loc) (L : List Dec) (x : Slot) (hx : x.list? = some (L.map Dec.enc)) (inn : Bool) (hl : L.length < 2^40) : ∀ (suf pre : List Dec) (st : σ) (s : St) (i : Nat), pre ++ suf = L → i = pre.length → (∀ d ∈ suf, d.size < 2^40 ∧ WCases step R P loc d.case ∧ ∀ f ∈ d.funs, WCases step R P loc [f.case]) → (∀ n ∈ nodesDecs inn suf, P n) → R (st, true) s →
    ∃ s', tree_walker_decs_l0 x (.val (.bool inn)) [.val (.yld loc)] (.val (.int .i64 L.length)) (.val (.int .i64 i)) s = some (.ret (.val (.bool (walk step (nodesDecs inn suf) st).2)), s') ∧ R (walk step (nodesDecs inn suf) st) s'
  | [], pre, st, s, i, h, hi, H, hP, hR => by
    subst hi
    rw [tree_walker_decs_l0_eq]; simp only [go_sem, Nat.reduceAdd, Nat.reduceLeDiff, end_facts (by simpa using h), nodesDecs, walk]
    exact ⟨s, rfl, hR⟩
  | .mk k a nm p l nb c cb f fb :: suf, pre, st, s, i, h, hi, H, hP, hR => by
    subst hi
    obtain ⟨f1, f2, f3⟩ := step_facts hx h (by omega) (Dec.cells_len (.mk k a nm p l nb c cb f fb)) (by decide)
    obtain ⟨hsz, HC, HF⟩ := H _ (List.mem_cons_self)
    simp only [Dec.case, Dec.funs, Dec.size] at hsz HC HF
    have q1 := Fun.len_sizes f
    have q2 := Con.len_sizes l
    have hlen : pre.length < L.length := by rw [← h]; simp
    simp only [nodesDecs, nodesDec, List.append_assoc, List.cons_append] at hP ⊢
    obtain ⟨s1, e1, g1⟩ := hY (.dec inn (.mk k a nm p l nb c cb f fb)) [] st s (hP _ (List.mem_cons_self)) hR
    rw [tree_walker_decs_l0_eq]
    simp only [walk]
    cases hb : (step (.dec inn (.mk k a nm p l nb c cb f fb)) st).2 with
    | false =>
      rw [hb] at e1
      simp only [go_sem, Nat.reduceAdd, Nat.reduceLeDiff, TNode.thing, Dec.at_, f1] at e1 f2 ⊢
      simp only [go_sem, Nat.reduceAdd, Nat.reduceLeDiff, f2, e1, hb]
      exact ⟨s1, rfl, g1⟩
    | true =>
      rw [hb] at e1
      rw [cond_true, walk_app]
      obtain ⟨s2, e2, g2⟩ := HC (encS cb (c.map Case.enc)) (by simp only [go_sem]) (fun n hn => hP n (List.mem_cons_of_mem _ (List.mem_append_left _ hn))) (step (.dec inn (.mk k a nm p l nb c cb f fb)) st).1 s1 (on_true hb g1)
      cases hb2 : (walk step (nodesCases c) (step (.dec inn (.mk k a nm p l nb c cb f fb)) st).1).2 with
      | false =>
        rw [hb2] at e2
        simp only [go_sem, Nat.reduceAdd, Nat.reduceLeDiff, TNode.thing, Dec.at_, f1] at e1 f2 ⊢
        simp only [go_sem, Nat.reduceAdd, Nat.reduceLeDiff, f2, e1, e2, hb2]
        exact ⟨s2, rfl, g2⟩
      | true =>
        rw [hb2] at e2
        obtain ⟨s3, e3, g3⟩ := walker_decs_l1_loop hY (.mk k a nm p l nb c cb f fb) x (.val (.bool inn)) (.val (.int .i64 L.length)) pre.length (by omega) (by simp only [Dec.funs]; omega) (by simp only [Dec.cons]; omega) (by simp only [Dec.cons]; omega) (nodesDecs inn suf)
          (fun st s hR hP => walker_decs_loop hY L x hx inn hl suf (pre ++ [.mk k a nm p l nb c cb f fb]) st s (pre.length + 1) (by simpa using h) (by simp) (fun w hw => H w (List.mem_cons_of_mem _ hw)) hP hR)
          f [] (walk step (nodesCases c) (step (.dec inn (.mk k a nm p l nb c cb f fb)) st).1).1 s2 0 rfl rfl HF (fun n hn => hP n (List.mem_cons_of_mem _ (List.mem_append_right _ hn))) (on_true hb2 g2)
        refine ⟨s3, ?_, g3⟩
        simp only [Dec.cons] at e3
        rw [cond_true, ← e3]
        simp only [go_sem, Nat.reduceAdd, Nat.reduceLeDiff, TNode.thing, Dec.at_, f1] at e1 f2 ⊢
        simp only [go_sem, Nat.reduceAdd, Nat.reduceLeDiff, f2, e1, e2, Dec.funs]
        rfl
theorem walker_all (hY : YOK step R P loc) : ∀ m : Nat, (∀ e : Exp, e.size ≤ m → e.size < 2^40 → WExp step R P loc e) ∧ (∀ l : List Case, Case.sizes l ≤ m → Case.sizes l < 2^40 → WCases step R P loc l) ∧ (∀ l : List Dec, Dec.sizes l ≤ m → Dec.sizes l < 2^40 → WDecs step R P loc l) := by
  intro m
  induction m with
  | zero =>
    refine ⟨fun e h _ => ?_, fun l h _ v hv hP st s hR => ?_, fun l h _ v inn hv hP st s hR => ?_⟩
    · obtain ⟨k, a, nm, n, l, lb, c, cb, d, db⟩ := e
      simp only [Exp.size] at h; omega
    · cases l with
      | cons c l => obtain ⟨p, e⟩ := c; simp only [Case.sizes, Case.size] at h; omega
      | nil =>
        rw [tree_walker_cases_eq]; simp only [go_sem, Nat.reduceAdd, hv]
        exact walker_cases_loop hY [] _ hv (by decide) [] [] st s 0 rfl rfl (by simp) hP hR
    · cases l with
      | cons c l => obtain ⟨k, a, nm, p, l, nb, c, cb, f, fb⟩ := c; simp only [Dec.sizes, Dec.size] at h; omega
      | nil =>
        rw [tree_walker_decs_eq]; simp only [go_sem, Nat.reduceAdd, hv]
        exact walker_decs_loop hY [] _ hv inn (by decide) [] [] st s 0 rfl rfl (by simp) hP hR
  | succ m ih =>
    obtain ⟨ihE, ihC, ihD⟩ := ih
    refine ⟨fun e h h' => ?_, fun l h h' v hv hP st s hR => ?_, fun l h h' v inn hv hP st s hR => ?_⟩
    · refine walker_exp_of hY e ?_ ?_ ?_ ?_ <;> obtain ⟨k, a, nm, n, l, lb, c, cb, d, db⟩ := e <;> simp only [Exp.size] at h h' <;> simp only [Exp.kids, Exp.cases, Exp.decs]
      · have := Exp.len_sizes l; omega
      · exact ihD d (by omega) (by omega)
      · exact ihC c (by omega) (by omega)
      · exact fun u hu => ihE u (by have := Exp.mem_sizes hu; omega) (by have := Exp.mem_sizes hu; omega)
    · have := Case.len_sizes l
      rw [tree_walker_cases_eq]; simp only [go_sem, Nat.reduceAdd, hv]
      refine walker_cases_loop hY l _ hv (by omega) l [] st s 0 rfl rfl (fun t ht => ?_) hP hR
      have h1 := Case.mem_sizes ht
      obtain ⟨p, e⟩ := t
      simp only [Case.size, Case.exp] at h1 ⊢
      exact ⟨ihE e (by omega) (by omega), by omega⟩
    · have := Dec.len_sizes l
      rw [tree_walker_decs_eq]; simp only [go_sem, Nat.reduceAdd, hv]
      refine walker_decs_loop hY l _ hv inn (by omega) l [] st s 0 rfl rfl (fun t ht => ?_) hP hR
      have h1 := Dec.mem_sizes ht
      obtain ⟨k, a, nm, p, l, nb, c, cb, f, fb⟩ := t
      simp only [Dec.size, Dec.case, Dec.funs] at h1 ⊢
      refine ⟨by omega, ihC c (by omega) (by omega), fun g hg => ?_⟩
      have h2 := Fun.mem_sizes hg
      obtain ⟨nm, a, c'⟩ := g
      simp only [Fun.size, Fun.case] at h2 ⊢
      exact ihC [c'] (by simp only [Case.sizes]; omega) (by simp only [Case.sizes]; omega)
end
end Go.Proofs.YtinphnakebeloaaGreat

namespace Go.Am
open Go
/-- a state in which a shared variable stands at L's end -/
def lay0 (L : List Obj) (cs : List Slot) (g : List Obj) (T : List Nat) : St := ⟨L ++ (.var cs :: g), T⟩
/-- .. and a loop further on -/
def lay (L : List Obj) (cs : List Slot) (g : List Obj) (o : Obj) (a : List Obj) (T : List Nat) : St := ⟨L ++ (.var cs :: (g ++ (o :: a))), T⟩
def reL (st : LSt) (p : Option AExit) : Obj → Obj
  | .loop _ _ f e ps a b => .loop st p f e ps a b
  | o => o
def isReady : Obj → Bool
  | .loop .ready none _ _ _ _ _ => true
  | _ => false
theorem isReady_of {o : Obj} (h : isReady o = true) : ∃ f e ps a b, o = .loop .ready none f e ps a b := by
  cases o with
  | loop st p f e ps a b => cases st <;> cases p <;> first | exact ⟨f, e, ps, a, b, rfl⟩ | cases h
  | _ => cases h
section
variable (L : List Obj) (cs cs' : List Slot) (g a : List Obj) (o : Obj) (T : List Nat) (t : TI) (p : Option AExit) (st : LSt)
@[go_sem] theorem ldV_lay0 : ldV t false (lay0 L cs g T) (.val (.vp L.length 0)) = ofSlots t (cs.take t.size) := by
  simp [ldV, lay0]
@[go_sem] theorem ldV_lay : ldV t false (lay L cs g o a T) (.val (.vp L.length 0)) = ofSlots t (cs.take t.size) := ldV_lay0 ..
variable {cs cs'} in
@[go_sem] theorem stV_lay0 (h : cs'.length = cs.length) : stV (lay0 L cs g T) (.val (.vp L.length 0)) cs' = some (lay0 L cs' g T) := by
  simp [stV, lay0, putAt, h]
variable {cs cs'} in
@[go_sem] theorem stV_lay (h : cs'.length = cs.length) : stV (lay L cs g o a T) (.val (.vp L.length 0)) cs' = some (lay L cs' g o a T) := stV_lay0 _ _ _ h
theorem lay_at : (lay L cs g o a T).locs[L.length + 1 + g.length]? = some o := by
  simp only [lay]
  rw [List.getElem?_append_right (by omega), show L.length + 1 + g.length - L.length = g.length + 1 by omega, List.getElem?_cons_succ, List.getElem?_append_right (by omega)]
  simp
theorem lay_set (o' : Obj) : (lay L cs g o a T).locs.set (L.length + 1 + g.length) o' = L ++ (.var cs :: (g ++ (o' :: a))) := by
  simp only [lay]
  rw [List.set_append_right _ _ (by omega), show L.length + 1 + g.length - L.length = g.length + 1 by omega, List.set_cons_succ, List.set_append_right _ _ (by omega)]
  simp
variable {o} in
@[go_sem] theorem beginL_lay (h : isReady o = true) : beginL (L.length + 1 + g.length) (lay L cs g o a T) = some (lay L cs g (reL .busy none o) a T) := by
  obtain ⟨f, e, ps, x, y, rfl⟩ := isReady_of h
  unfold beginL
  rw [lay_at]
  simp only [lay_set]; rfl
variable {o} in
theorem setLoop_lay (h : isReady o = true) (q : LSt) (r : Option AExit) : setLoop (L.length + 1 + g.length) q r (lay L cs g (reL st p o) a T) = some (lay L cs g (reL q r o) a T) := by
  obtain ⟨f, e, ps, x, y, rfl⟩ := isReady_of h
  unfold setLoop
  rw [lay_at]
  simp only [reL, lay_set]; rfl
variable {o} in
theorem reL_ready (h : isReady o = true) : reL .ready none o = o := by
  obtain ⟨f, e, ps, x, y, rfl⟩ := isReady_of h
  rfl
variable {o} in
theorem endX_lay (h : isReady o = true) (hs : st ≠ .busy) (kn kr : St → Res) (ke : Nat → St → Res) : endX (L.length + 1 + g.length) (lay L cs g (reL st p o) a T) kn kr ke = pendX p kn kr ke (lay L cs g (reL .exhausted p o) a T) := by
  have e1 := setLoop_lay L cs g a T p st h .exhausted p
  obtain ⟨f, e, ps, x, y, rfl⟩ := isReady_of h
  simp only [reL] at e1 ⊢
  unfold endX
  rw [lay_at]
  cases st <;> first | (exact absurd rfl hs) | (simp only [e1]; rfl)
theorem lay_len : (lay0 L cs g T).locs.length = L.length + 1 + g.length := by simp [lay0]; omega
theorem lay_add : (lay0 L cs g T).addLoc o = lay L cs g o [] T := by simp [lay0, lay, St.addLoc]
end
theorem addVar (s : St) (cs : List Slot) : s.addLoc (.var cs) = lay0 s.locs cs [] s.toks := rfl
theorem Grew.lay0 {s : St} (cs : List Slot) (g : List Obj) (b : List Nat) : Grew s (lay0 s.locs cs g (s.toks ++ b)) := ⟨⟨_, rfl⟩, ⟨b, rfl⟩⟩
theorem Grew.lay {s : St} (cs : List Slot) (g : List Obj) (o : Obj) (a : List Obj) (b : List Nat) : Grew s (lay s.locs cs g o a (s.toks ++ b)) := ⟨⟨_, rfl⟩, ⟨b, rfl⟩⟩
theorem Grew.layE {s : St} (cs : List Slot) (g : List Obj) (o : Obj) (a : List Obj) : Grew s (Am.lay s.locs cs g o a s.toks) := ⟨⟨_, rfl⟩, ⟨[], by simp [Am.lay]⟩⟩
theorem Grew.of_lay0 {L : List Obj} {cs : List Slot} {T : List Nat} {s : St} (h : Grew (Am.lay0 L cs [] T) s) : ∃ g b, s = Am.lay0 L cs g (T ++ b) := by
  obtain ⟨⟨a, ha⟩, b, hb⟩ := h
  refine ⟨a, b, ?_⟩
  obtain ⟨l, t⟩ := s
  simp only [Am.lay0] at ha hb ⊢
  rw [ha, hb]; simp
end Go.Am
namespace Go.Proofs.YtinphnakebeloaaGreat
open Go Go.Am
set_option linter.unusedVariables false
set_option maxRecDepth 4000
/-! ### counting -/
def cstep (most : Int) (n : TNode) (k : Int) : Int × Bool := (bif n.isNode then IntKind.i64.wrap (k + 1) else k, !decide ((bif n.isNode then IntKind.i64.wrap (k + 1) else k) ≥ most))
theorem walk_count (most : Int) : ∀ (l : List TNode) (n : Nat), (n : Int) < most → n + l.length < 2^62 → walk (cstep most) l n = (if ((n + countN l : Nat) : Int) < most then (((n + countN l : Nat) : Int), true) else (most, false))
  | [], n, h, _ => by simp [walk, countN, h]
  | u :: l, n, h, hb => by
    simp only [List.length_cons] at hb
    have hw : IntKind.i64.wrap ((n : Int) + 1) = ((n + 1 : Nat) : Int) := by rw [wrap64 (by omega) (by omega)]; rfl
    simp only [walk, cstep]
    cases hu : u.isNode
    · have e : countN (u :: l) = countN l := by simp [countN, hu]
      have e2 : (!decide ((n : Int) ≥ most)) = true := by simpa using h
      simp only [cond_false, e2, cond_true, e]
      exact walk_count most l n h (by omega)
    · have e : countN (u :: l) = countN l + 1 := by simp [countN, hu]
      simp only [cond_true, hw, e]
      by_cases h2 : ((n + 1 : Nat) : Int) < most
      · have e2 : (!decide (((n + 1 : Nat) : Int) ≥ most)) = true := by simpa using h2
        rw [e2, cond_true, walk_count most l (n + 1) h2 (by omega), show n + 1 + countN l = n + (countN l + 1) by omega]
      · have e2 : (!decide (((n + 1 : Nat) : Int) ≥ most)) = false := by simpa using h2
        rw [e2, cond_false, if_neg (by omega)]
        congr 1; omega
def rstep (n : TNode) (b : TBad) : TBad × Bool := bif decide (n.bad.kind = 0) then (b, true) else (n.bad, false)
theorem walk_right : ∀ (l : List TNode) (b : TBad), walk rstep l b = bif l.all (fun n => decide (n.bad.kind = 0)) then (b, true) else (firstBad l, false)
  | [], b => rfl
  | u :: l, b => by
    simp only [walk, rstep, List.all_cons, firstBad]
    cases hu : decide (u.bad.kind = 0)
    · rfl
    · simp only [cond_true, Bool.true_and]
      exact walk_right l b
theorem firstBad_none : ∀ l : List TNode, l.all (fun n => decide (n.bad.kind = 0)) = true → firstBad l = .zero
  | [], _ => rfl
  | u :: l, h => by
    rw [List.all_cons, Bool.and_eq_true] at h
    rw [firstBad, h.1, cond_true]
    exact firstBad_none l h.2
theorem thing_box (nd : TNode) (r : List AV) : boxCells (C.ti T_thing) (.val (nd.thing r)) = some ((nd.thing r).cells.map .val) := by cases nd <;> simp only [go_sem, Nat.reduceAdd, TNode.thing]
theorem thing_put (nd : TNode) (r : List AV) (a b c d e f g h : Slot) : putAt [a, b, c, d, e, f, g, h] 0 ((nd.thing r).cells.map .val) = some ((nd.thing r).cells.map .val) := by cases nd <;> rfl
theorem thing_take (nd : TNode) (r : List AV) : aggO (C.ti T_thing) (avs (List.take 8 ((nd.thing r).cells.map .val))) = some (.val (nd.thing r)) := by cases nd <;> kernel_rfl
/-- a sequence that tells these nodes in order -/
structure SeqOK (h : AV) (nodes : List TNode) : Prop where
  ok : ∃ g l, h = .fn g l ∧ (C.ext g).isSome = false ∧ ∀ (σ : Type) (step : TNode → σ → σ × Bool) (R : σ × Bool → St → Prop) (P : TNode → Prop) (loc : Nat), YOK step R P loc → (∀ n ∈ nodes, P n) → ∀ st s, R (st, true) s →
    ∃ v s', cw (.f g) (.yld loc :: l) s = some (.ret v, s') ∧ R (walk step nodes st) s'
theorem SeqOK.range {h : AV} {nodes : List TNode} (H : SeqOK h nodes) {σ : Type} {step : TNode → σ → σ × Bool} {R : σ × Bool → St → Prop} {P : TNode → Prop} {loc : Nat} (hY : YOK step R P loc) (hP : ∀ n ∈ nodes, P n) {st : σ} {s : St} (hR : R (st, true) s) (k : St → Res) :
    ∃ s', rangeC C cw (.val h) loc s k = k s' ∧ R (walk step nodes st) s' := by
  obtain ⟨g, l, rfl, he, H⟩ := H.ok
  obtain ⟨v, s', e, g'⟩ := H σ step R P loc hY hP st s hR
  refine ⟨s', ?_, g'⟩
  unfold rangeC
  have : tgtV (.val (.fn g l)) [] = some (.f g, l) := rfl
  rw [this]
  simp only [he, cond_false, e]
  rfl
theorem tree_program_spec (l : List Dec) (nl : Bool) (s : St) (h : Dec.sizes l < 2^40) : ∃ q, cw (.f F_tree_program) [encS nl (l.map Dec.enc)] s = some (.ret (.val q), s) ∧ SeqOK q (nodesDecs false l) := by
  refine ⟨.fn F_tree_program_1 [.cp [encS nl (l.map Dec.enc)]], ?_, ⟨_, _, rfl, by kernel_rfl, fun σ step R P loc hY hP st s hR => ?_⟩⟩
  · rw [tree_program_eq]; simp only [go_sem]
  · obtain ⟨s', e, g⟩ := (walker_all hY (Dec.sizes l)).2.2 l (Nat.le_refl _) h (encS nl (l.map Dec.enc)) false (by simp only [go_sem]) hP st s hR
    rw [tree_program_1_eq]; simp only [go_sem, Nat.reduceAdd, Nat.reduceLeDiff, e]
    exact ⟨_, s', rfl, g⟩
theorem tree_expression_spec (t : Exp) (s : St) (h : t.size < 2^40) : ∃ q, cw (.f F_tree_expression) [t.enc] s = some (.ret (.val q), s) ∧ SeqOK q (nodesExp t) := by
  refine ⟨.fn F_tree_expression_1 [.cp t.cells], ?_, ⟨_, _, rfl, by kernel_rfl, fun σ step R P loc hY hP st s hR => ?_⟩⟩
  · rw [tree_expression_eq]; simp only [go_sem]
  · obtain ⟨s', e, g⟩ := (walker_all hY t.size).1 t (Nat.le_refl _) h [] hP st s hR
    rw [List.append_nil] at e
    rw [tree_expression_1_eq]; simp only [go_sem, Nat.reduceAdd, Nat.reduceLeDiff, e]
    exact ⟨_, s', rfl, g⟩
theorem tree_count_spec {h : AV} {nodes : List TNode} (H : SeqOK h nodes) (most : Nat) (hm : 0 < most) (hl : nodes.length < 2^61) (s : St) : Ret (cw (.f F_tree_count) [h, .int .i64 most] s) s (.int .i64 (min (countN nodes) most : Nat)) := by
  let o := tree_count_r0 (.val (.cp [.int .i64 most])) (.val (.vp s.locs.length 0))
  have ho : isReady o = true := rfl
  let R : Int × Bool → St → Prop := fun p s1 => s1 = lay s.locs [.val (.int .i64 p.1)] [] (bif p.2 then o else reL .done (some (.exit 0)) o) [] s.toks
  have hY : YOK (cstep most) R (fun _ => True) (s.locs.length + 1) := by
    rintro nd r st s1 - rfl
    simp only [cond_true]
    have b0 := lay_at s.locs [.val (.int .i64 st)] [] [] o s.toks
    rw [List.length_nil, Nat.add_zero] at b0
    rw [cw, callw_yld b0]
    rw [tree_count_r0_eq]
    have b1 := beginL_lay s.locs [.val (.int .i64 st)] [] [] s.toks ho
    have b2 : ∀ n st p q r, setLoop (s.locs.length + 1) q r (lay s.locs [.val (.int .i64 n)] [] (reL st p o) [] s.toks) = _ := fun n st p q r => setLoop_lay s.locs [.val (.int .i64 n)] [] [] s.toks p st ho q r
    simp only [List.length_nil, Nat.add_zero] at b1
    simp only [go_sem, Nat.reduceAdd, Nat.reduceLeDiff, thing_box, thing_put, thing_take, b1]
    simp only [go_sem, Nat.reduceAdd, Nat.reduceLeDiff, avs_cons (show (Slot.val (nd.thing r)).av = some (nd.thing r) from rfl), tree_thing_node_spec]
    have b3 : ∀ n st p v', stV (lay s.locs [.val (.int .i64 n)] [] (reL st p o) [] s.toks) (.val (.vp s.locs.length 0)) [.val v'] = _ := fun n st p v' => stV_lay s.locs [] [] (reL st p o) s.toks rfl
    cases hn : nd.isNode
    · simp only [go_sem, b2, cstep, hn]
      cases hd : decide (st ≥ (most : Int))
      · simp only [go_sem]; exact ⟨_, rfl, by simp only [R, Bool.not_false, cond_true, reL_ready ho]⟩
      · simp only [go_sem]; exact ⟨_, rfl, by simp only [R, Bool.not_true, cond_false]⟩
    · simp only [go_sem, b2, b3, cstep, hn]
      cases hd : decide (IntKind.i64.wrap (st + 1) ≥ (most : Int))
      · simp only [go_sem]; exact ⟨_, rfl, by simp only [R, Bool.not_false, cond_true, reL_ready ho]⟩
      · simp only [go_sem]; exact ⟨_, rfl, by simp only [R, Bool.not_true, cond_false]⟩
  rw [tree_count_eq]
  simp only [go_sem, Nat.reduceAdd, addVar, lay_len, lay_add]
  obtain ⟨s', e, g⟩ := H.range hY (fun _ _ => trivial) (st := 0) (s := lay s.locs [.val (.int .i64 0)] [] o [] s.toks) rfl (fun s_10 => endX (s.locs.length + 1) s_10 (fun s_11 => bind1 (ldV (C.ti T_int) false s_11 (.val (.vp s.locs.length 0))) fun v16 => some (.ret v16, s_11)) (fun s_12 => some (.ret (.val (.int .i64 0)), s_12)) (fun j s_13 => bif Nat.beq j 0 then (bind1 (ldV (C.ti T_int) false s_13 (.val (.vp s.locs.length 0))) fun v16_1 => some (.ret v16_1, s_13)) else none))
  refine (congrArg (fun r => Ret r s (.int .i64 (min (countN nodes) most : Nat))) (Eq.trans rfl e)).mpr ?_
  have := walk_count most nodes 0 (by omega) (by omega)
  rw [Nat.zero_add] at this
  rw [show ((0 : Nat) : Int) = 0 from rfl] at this
  rw [this] at g
  have b2 : ∀ n st p, st ≠ .busy → ∀ kn kr ke, endX (s.locs.length + 1) (lay s.locs [.val (.int .i64 n)] [] (reL st p o) [] s.toks) kn kr ke = _ := fun n st p hs kn kr ke => endX_lay s.locs [.val (.int .i64 n)] [] [] s.toks p st ho hs kn kr ke
  subst g
  by_cases hc : (countN nodes : Int) < most
  · rw [if_pos hc]
    simp only [cond_true]
    rw [← reL_ready ho, b2 _ _ _ (by intro h; cases h), show min (countN nodes) most = countN nodes by omega]
    simp only [go_sem, Nat.reduceAdd, Nat.reduceLeDiff, pendX]
    exact Ret.mk (.layE _ _ _ _)
  · rw [if_neg hc]
    simp only [cond_false]
    rw [b2 _ _ _ (by intro h; cases h), show min (countN nodes) most = most by omega]
    simp only [go_sem, Nat.reduceAdd, Nat.reduceLeDiff, pendX, Nat.beq]
    exact Ret.mk (.layE _ _ _ _)
/-- a function that gives a number -/
def NumOK (d : AV) (n : Int) : Prop := ∃ g l, d = .fn g l ∧ ∀ s, cw (.f g) l s = some (.ret (.val (.int .i64 n)), s)
theorem bad_take (b : TBad) : aggO (C.ti T_Bad) (avs (List.take 3 (b.cells.map .val))) = some (.val b.enc) := by kernel_rfl
theorem tree_right_spec {h d : AV} {nodes : List TNode} {n : Int} (H : SeqOK h nodes) (HD : NumOK d n) (hl : nodes.length < 2^61) (hn : ∀ nd ∈ nodes, nd.name.length < 2^40) (s : St) : Ret (cw (.f F_tree_right) [h, d] s) s (rightN nodes n).enc := by
  rw [tree_right_eq]
  obtain ⟨s1, e1, g1⟩ := tree_count_spec H 8193 (by decide) hl (s.addLoc (.var (TBad.zero.cells.map .val)))
  obtain ⟨gf, gl, rfl, hd⟩ := HD
  rw [addVar] at e1 g1
  obtain ⟨g, b, rfl⟩ := g1.of_lay0
  have e0 : s.addLoc (.var (List.map .val (C.ti T_Bad).zero)) = lay0 s.locs (TBad.zero.cells.map .val) [] s.toks := rfl
  rw [e0]
  rw [show ((8193 : Nat) : Int) = 8193 from rfl] at e1
  have hT : ∃ c, s.toks ++ b = s.toks ++ c := ⟨b, rfl⟩
  generalize s.toks ++ b = T at *
  have k1 : ∀ v : List AV, v.length = 3 → ∀ r, Ret (some (.ret (.val r), lay0 s.locs (v.map .val) g T)) s r := fun v _ r => by obtain ⟨c, rfl⟩ := hT; exact Ret.mk (.lay0 _ _ _)
  have k2 : ∀ (v : List AV) o a r, Ret (some (.ret (.val r), lay s.locs (v.map .val) g o a T)) s r := fun v o a r => by obtain ⟨c, rfl⟩ := hT; exact Ret.mk (.lay _ _ _ _ _)
  have hst0 : ∀ x y z : AV, stV (lay0 s.locs (TBad.zero.cells.map .val) g T) (.val (.vp s.locs.length 0)) [.val x, .val y, .val z] = some (lay0 s.locs ([x, y, z].map .val) g T) := fun x y z => stV_lay0 _ _ _ rfl
  have hst : ∀ (c : TBad) o x y z, stV (lay s.locs (c.cells.map .val) g o [] T) (.val (.vp s.locs.length 0)) [.val x, .val y, .val z] = some (lay s.locs ([x, y, z].map .val) g o [] T) := fun c o x y z => stV_lay _ _ _ _ _ rfl
  have hb : ∀ x y z : AV, aggO (C.ti T_Bad) (avs (List.take 3 ([x, y, z].map .val))) = some (.val (.agg [x, y, z])) := fun x y z => by kernel_rfl
  simp only [go_sem, Nat.reduceAdd, Nat.reduceLeDiff, e1, avs_cons (show (Slot.val h).av = some h from rfl), hd, hst0, hb]
  have hc : decide (((min (countN nodes) 8193 : Nat) : Int) > 8192) = decide (countN nodes > 8192) := by simp only [gt_iff_lt]; congr 1; rw [eq_iff_iff]; omega
  rw [hc]
  unfold rightN
  cases decide (countN nodes > 8192) with
  | true => simp only [go_sem]; exact k1 [_, _, _] rfl _
  | false =>
    cases decide (n > 100) with
    | true => simp only [go_sem]; exact k1 [_, _, _] rfl _
    | false =>
      simp only [go_sem, lay_len, lay_add]
      let o := tree_right_r0 (.val (.vp s.locs.length 0))
      have ho : isReady o = true := rfl
      let R : TBad × Bool → St → Prop := fun p s1 => s1 = lay s.locs (p.1.cells.map .val) g (bif p.2 then o else reL .done (some .ret) o) [] T
      have hY : YOK rstep R (fun nd => nd.name.length < 2^40) (s.locs.length + 1 + g.length) := by
        rintro nd r st s1 hP rfl
        simp only [cond_true]
        rw [cw, callw_yld (lay_at _ _ _ _ _ _), tree_right_r0_eq]
        have b1 := beginL_lay s.locs (st.cells.map .val) g [] T ho
        have b2 : ∀ (c : List AV) st p q r, setLoop (s.locs.length + 1 + g.length) q r (lay s.locs (c.map .val) g (reL st p o) [] T) = _ := fun c st p q r => setLoop_lay s.locs (c.map .val) g [] T p st ho q r
        simp only [go_sem, Nat.reduceAdd, Nat.reduceLeDiff, thing_box, thing_put, thing_take, b1]
        simp only [go_sem, avs_cons (show (Slot.val (nd.thing r)).av = some (nd.thing r) from rfl), tree_thing_wrong_spec _ _ _ hP]
        unfold rstep
        generalize nd.bad = bd
        obtain ⟨k, a, nm⟩ := bd
        obtain ⟨k0, a0, nm0⟩ := st
        have b3 : ∀ p x y z x' y' z', stV (lay s.locs [.val x', .val y', .val z'] g (reL .busy p o) [] T) (.val (.vp s.locs.length 0)) [.val x, .val y, .val z] = some (lay s.locs ([x, y, z].map .val) g (reL .busy p o) [] T) := fun p x y z x' y' z' => stV_lay _ _ _ _ _ rfl
        have b4 := b2 [.int .i64 k0, .int .i64 a0, .str nm0]
        have b5 := b2 [.int .i64 k, .int .i64 a, .str nm]
        simp only [List.map] at b3 b4 b5
        simp only [go_sem, Nat.reduceAdd, Nat.reduceLeDiff, TBad.enc, TBad.cells, b3, b4, b5]
        cases hk : decide (k = 0)
        · simp only [go_sem]; exact ⟨_, rfl, by simp only [R, cond_false]; rfl⟩
        · simp only [go_sem]; exact ⟨_, rfl, by simp only [R, cond_true, reL_ready ho]; rfl⟩
      obtain ⟨s', e, gR⟩ := H.range hY hn (st := TBad.zero) (s := lay s.locs (TBad.zero.cells.map .val) g o [] T) rfl (fun s_11 =>
 endX (s.locs.length + 1 + g.length) s_11 (fun s_12 =>
 bindS (stV s_12 (.val (.vp s.locs.length 0)) [.val (.int .i64 0), .val (.int .i64 0), .val (.str [])]) fun s_15 =>
 bind1 (ldV (C.ti T_Bad) false s_15 (.val (.vp s.locs.length 0))) fun v => some (.ret v, s_15)) (fun s_13 =>
 bind1 (ldV (C.ti T_Bad) false s_13 (.val (.vp s.locs.length 0))) fun v => some (.ret v, s_13)) (fun j s_14 =>
 bif Nat.beq j 0 then (
 bindS (stV s_14 (.val (.vp s.locs.length 0)) [.val (.int .i64 0), .val (.int .i64 0), .val (.str [])]) fun s_16 =>
 bind1 (ldV (C.ti T_Bad) false s_16 (.val (.vp s.locs.length 0))) fun v => some (.ret v, s_16)) else (
(none : Res))))
      refine (congrArg (fun r => Ret r s (firstBad nodes).enc) e).mpr ?_
      have b2 : ∀ (c : List AV) st p, st ≠ .busy → ∀ kn kr ke, endX (s.locs.length + 1 + g.length) (lay s.locs (c.map .val) g (reL st p o) [] T) kn kr ke = _ := fun c st p hs kn kr ke => endX_lay s.locs (c.map .val) g [] T p st ho hs kn kr ke
      rw [walk_right] at gR
      simp only [R] at gR
      subst gR
      cases ha : nodes.all fun nd => decide (nd.bad.kind = 0)
      · simp only [cond_false]
        rw [b2 _ _ _ (by intro h; cases h)]
        simp only [go_sem, pendX, bad_take]
        exact k2 _ _ _ _
      · simp only [cond_true]
        rw [← reL_ready ho, b2 _ _ _ (by intro h; cases h), firstBad_none _ ha]
        simp only [go_sem, Nat.reduceAdd, Nat.reduceLeDiff, pendX, hst, hb]
        exact k2 [_, _, _] _ _ _
end Go.Proofs.YtinphnakebeloaaGreat

namespace Go.Am
open Go
def varOf (p : Pat) : List Str := bif decide (p.kind = 2) || decide (p.kind = 6) then [p.name] else []
mutual
def varsPat : Pat → List Str
  | .mk k a s n l b => varOf (.mk k a s n l b) ++ varsPats l
def varsPats : List Pat → List Str
  | [] => []
  | t :: l => varsPat t ++ varsPats l
end
theorem varOf_len (p : Pat) : (varOf p).length ≤ 1 := by unfold varOf; cases decide (p.kind = 2) <;> cases decide (p.kind = 6) <;> simp
mutual
theorem varsPat_len : ∀ t : Pat, (varsPat t).length ≤ t.size
  | .mk k a s n l b => by have h1 := varOf_len (.mk k a s n l b); have h2 := varsPats_len l; simp only [varsPat, Pat.size, List.length_append]; omega
theorem varsPats_len : ∀ l : List Pat, (varsPats l).length ≤ Pat.sizes l
  | [] => Nat.le_refl _
  | t :: l => by have h1 := varsPat_len t; have h2 := varsPats_len l; simp only [varsPats, Pat.sizes, List.length_append]; omega
end
theorem TNode.ok_name {n : TNode} (h : n.ok) : n.name.length < 2^40 := by
  cases n <;> first | exact h | exact h.1
@[go_sem] theorem fnS_val (f : FuncId) (v : AV) : fnS f [.val v] = some (.val (.fn f [v])) := id rfl
theorem AccR.relay {e : TypeId} {s s1 s2 : St} {x : Slot} {l : List AV} (h : AccR e s s1 x l) (ht : s2.toks = s1.toks) (hl : ∃ a, s2.locs = s.locs ++ a) : AccR e s s2 x l := by
  obtain ⟨⟨_, b, hb⟩, h2⟩ := h
  exact ⟨⟨hl, b, by rw [ht, hb]⟩, by rw [ht]; exact h2⟩
theorem appendS_locs {e : TypeId} {t : TI} {s s' : St} {x y x' : Slot} (h : appendS e t s x y = some (x', s')) : s'.locs = s.locs := by
  unfold appendS at h
  split at h
  · split at h <;> cases h
    rfl
  · cases hz : okSz t.size ‹List AV› with
    | false => rw [hz] at h; cases h
    | true =>
      rw [hz] at h
      simp only [cond_true] at h
      split at h
      · revert h
        cases okSz t.size ‹List AV› with
        | false => intro h; cases h
        | true =>
          intro h
          simp only [cond_true] at h
          split at h <;> cases h
          rfl
      · revert h
        cases okSz t.size ‹List AV› with
        | false => intro h; cases h
        | true =>
          intro h
          simp only [cond_true] at h
          split at h <;> cases h
          rfl
      · split at h <;> cases h
        rfl
      · cases h
  · cases h
end Go.Am
namespace Go.Proofs.YtinphnakebeloaaGreat
open Go Go.Am
set_option linter.unusedVariables false
set_option maxRecDepth 4000
section
variable (R : Nat → List Str → St → Prop) (loc : Nat)
def YN : Prop := ∀ p r k acc s, R (k + 1) acc s → ∃ s', cw (.y loc) [(TNode.pat p).thing r] s = some (.ret (.val (.bool true)), s') ∧ R k (acc ++ varOf p) s'
def WN (t : Pat) : Prop := ∀ r k acc s, R (k + t.size) acc s → ∃ s', cw (.f F_tree_walker_pats) [wk loc, .cp (t.cells ++ r)] s = some (.ret (.val (.bool true)), s') ∧ R k (acc ++ varsPat t) s'
variable {R} {loc}
theorem walkN_loop (hY : YN R loc) (t : Pat) (r : List AV) (hl : t.kids.length < 2^40) : ∀ (suf pre : List Pat) (k : Nat) (acc : List Str) (s : St) (i : Nat), pre ++ suf = t.kids → i = pre.length → (∀ u ∈ suf, WN R loc u) → R (k + Pat.sizes suf) acc s →
    ∃ s', tree_walker_pats_l0 (.val (.cp (t.cells ++ r))) [.val (.yld loc)] (.val (.int .i64 t.kids.length)) (.val (.int .i64 i)) s = some (.ret (.val (.bool true)), s') ∧ R k (acc ++ varsPats suf) s'
  | [], pre, k, acc, s, i, h, hi, H, hR => by
    subst hi
    rw [tree_walker_pats_l0_eq]; simp only [go_sem, Nat.reduceAdd, Nat.reduceLeDiff, end_facts (by simpa using h), varsPats, List.append_nil]
    exact ⟨s, rfl, hR⟩
  | u :: suf, pre, k, acc, s, i, h, hi, H, hR => by
    subst hi
    obtain ⟨f1, f2, f3⟩ := step_facts (x := .val (encS t.kb (t.kids.map Pat.enc))) (list?_encS _ _) h (by omega) (Pat.cells_len u) (by decide)
    obtain ⟨s1, e1, g1⟩ := H u (List.mem_cons_self) [] (k + Pat.sizes suf) acc s (by simp only [Pat.sizes] at hR; rwa [show k + Pat.sizes suf + u.size = k + (u.size + Pat.sizes suf) by omega])
    obtain ⟨s2, e2, g2⟩ := walkN_loop hY t r hl suf (pre ++ [u]) k (acc ++ varsPat u) s1 (pre.length + 1) (by simpa using h) (by simp) (fun w hw => H w (List.mem_cons_of_mem _ hw)) g1
    simp only [varsPats]
    rw [tree_walker_pats_l0_eq, ← List.append_assoc]
    refine ⟨s2, ?_, g2⟩
    rw [← e2]
    simp only [go_sem, Nat.reduceAdd, Nat.reduceLeDiff, Pat.cells_eq, f1] at e1 f2 ⊢
    simp only [go_sem, f2, e1, f3]
theorem walkN_spec (hY : YN R loc) : ∀ (m : Nat) (t : Pat), t.size ≤ m → t.size < 2^40 → WN R loc t
  | 0, .mk _ _ _ _ _ _, h, _ => by simp only [Pat.size] at h; omega
  | m + 1, .mk k a nm n l nl, h, h' => fun r kk acc s hR => by
    simp only [Pat.size] at h h' hR
    have hl := Pat.len_sizes l
    obtain ⟨s1, e1, g1⟩ := hY (.mk k a nm n l nl) r (kk + Pat.sizes l) acc s (by rwa [show kk + Pat.sizes l + 1 = kk + (Pat.sizes l + 1) by omega])
    obtain ⟨s2, e2, g2⟩ := walkN_loop hY (.mk k a nm n l nl) r (by simp only [Pat.kids]; omega) l [] kk _ s1 0 rfl rfl (fun u hu => by have := Pat.mem_sizes hu; exact walkN_spec hY m u (by omega) (by omega)) g1
    rw [tree_walker_pats_eq]
    simp only [varsPat]
    rw [← List.append_assoc]
    refine ⟨s2, ?_, g2⟩
    rw [← e2]
    simp only [go_sem, Nat.reduceAdd, Nat.reduceLeDiff, TNode.thing, Pat.at_] at e1 ⊢
    simp only [go_sem, e1, Pat.kids]
    rfl
end
theorem tree_Vars_spec (t : Pat) (s : St) (h : t.size < 2^26) : ∃ x s', cw (.f F_tree_Vars) [t.enc] s = some (.ret x, s') ∧ AccR T_string s s' x ((varsPat t).map .str) := by
  let o := tree_Vars_r0 (.val (.vp s.locs.length 0))
  have ho : isReady o = true := rfl
  let R : Nat → List Str → St → Prop := fun k acc s1 => acc.length + k < 2^26 ∧ ∃ x T, s1 = lay s.locs [x] [] o [] T ∧ AccR T_string s s1 x (acc.map .str)
  have hY : YN R (s.locs.length + 1) := by
    rintro p r k acc s1 ⟨hk, x, T, rfl, hA⟩
    have b0 := lay_at s.locs [x] [] [] o T
    rw [List.length_nil, Nat.add_zero] at b0
    rw [cw, callw_yld b0, tree_Vars_r0_eq]
    have b1 := beginL_lay s.locs [x] [] [] T ho
    have b2 : ∀ x T st p q r, setLoop (s.locs.length + 1) q r (lay s.locs [x] [] (reL st p o) [] T) = _ := fun x T st p q r => setLoop_lay s.locs [x] [] [] T p st ho q r
    have b3 : ∀ x x' T st p, stV (lay s.locs [x] [] (reL st p o) [] T) (.val (.vp s.locs.length 0)) [x'] = _ := fun x x' T st p => stV_lay s.locs [] [] (reL st p o) T rfl
    simp only [List.length_nil, Nat.add_zero] at b1
    simp only [go_sem, Nat.reduceAdd, Nat.reduceLeDiff, TNode.thing, b1, b2, Pat.cells_eq]
    unfold varOf
    cases hv : decide (p.kind = 2) || decide (p.kind = 6) with
    | false =>
      simp only [go_sem, List.append_nil]
      refine ⟨_, rfl, by omega, x, T, ?_, hA.relay rfl ⟨_, rfl⟩⟩
      rw [reL_ready ho]
    | true =>
      obtain ⟨x', s', e1, hA'⟩ := AccR.appendF (e := T_string) (t := C.ti T_string) (f := AV.str) (B := [p.name]) (y := .full [.str p.name]) (hA.relay (s2 := lay s.locs [x] [] (reL .busy none o) [] T) rfl ⟨_, rfl⟩) rfl (fun _ => rfl) (by decide) (by simp only [List.length_singleton]; omega) (by decide +kernel)
      have hs' : s' = lay s.locs [x] [] (reL .busy none o) [] s'.toks := by
        have := appendS_locs e1
        obtain ⟨l, t⟩ := s'
        simp only at this
        subst this
        rfl
      rw [hs'] at e1 hA'
      simp only [go_sem, e1, boxCells_one (t := C.ti T_S_string) (by kernel_rfl) (by kernel_rfl) hA'.cellOk, b3, b2]
      refine ⟨_, rfl, by simp only [List.length_append, List.length_singleton]; omega, x', s'.toks, ?_, ?_⟩
      · rw [reL_ready ho]
      · exact hA'.relay rfl ⟨_, rfl⟩
  obtain ⟨s1, e1, g1⟩ := walkN_spec hY t.size t (Nat.le_refl _) (by omega) [] 0 [] (lay s.locs [.val .nils] [] o [] s.toks) ⟨by simp only [List.length_nil]; omega, _, _, rfl, (AccR.nil T_string s).relay rfl ⟨_, rfl⟩⟩
  rw [List.append_nil] at e1
  rw [List.nil_append] at g1
  obtain ⟨_, x, T, rfl, hA⟩ := g1
  have e2 : ∀ s, cw (.f F_tree_pattern) [t.enc] s = some (.ret (.val (.fn F_tree_pattern_1 [.cp t.cells])), s) := fun s => by
    rw [tree_pattern_eq]; simp only [go_sem]
  have b2 := endX_lay s.locs [x] [] [] T none .ready ho (by intro h; cases h)
  rw [tree_Vars_eq]
  simp only [go_sem, Nat.reduceLeDiff, addVar, e2, lay_len, lay_add]
  have e3 : cw (.f F_tree_pattern_1) [.yld (s.locs.length + 1), .cp t.cells] (lay s.locs [.val .nils] [] o [] s.toks) = some (.ret (.val (.tup [])), lay s.locs [x] [] o [] T) := by
    rw [tree_pattern_1_eq]; simp only [go_sem, Nat.reduceAdd, Nat.reduceLeDiff, e1]
  have e4 : ∀ k, rangeC C cw (.val (.fn F_tree_pattern_1 [.cp t.cells])) (s.locs.length + 1) (lay s.locs [.val .nils] [] o [] s.toks) k = k (lay s.locs [x] [] o [] T) := fun k => by
    unfold rangeC
    rw [show tgtV (.val (.fn F_tree_pattern_1 [.cp t.cells])) [] = some (.f F_tree_pattern_1, [.cp t.cells]) from rfl]
    simp only [show (C.ext F_tree_pattern_1).isSome = false by kernel_rfl, cond_false, e3]
    rfl
  simp only [List.length_nil, Nat.add_zero] at b2 ⊢
  rw [reL_ready ho] at b2
  rw [e4, b2]
  simp only [go_sem, Nat.reduceAdd, Nat.reduceLeDiff, pendX]
  exact ⟨x, _, rfl, hA.relay rfl ⟨_, rfl⟩⟩
theorem tree_Right_spec (l : List Dec) (nl : Bool) (s : St) (h : Dec.sizes l < 2^26) (H : ∀ n ∈ nodesDecs false l, n.ok) : Ret (cw (.f F_tree_Right) [encS nl (l.map Dec.enc)] s) s (rightN (nodesDecs false l) (deepDecs l 0)).enc := by
  obtain ⟨q, e1, hq⟩ := tree_program_spec l nl s (by omega)
  have hlen := nodesDecs_len false l
  have hd : NumOK (.fn F_tree_Right_1 [.cp [encS nl (l.map Dec.enc)]]) (deepDecs l 0) := ⟨_, _, rfl, fun s => by
    rw [tree_Right_1_eq]; simp only [go_sem, Nat.reduceAdd, Nat.reduceLeDiff, tree_deepDecs_spec l nl s (by omega)]⟩
  obtain ⟨s', e2, g2⟩ := tree_right_spec hq hd (by omega) (fun nd hn => TNode.ok_name (H nd hn)) s
  revert e2
  generalize rightN _ _ = b
  intro e2
  obtain ⟨k, a, nm⟩ := b
  rw [tree_Right_eq]; simp only [go_sem, Nat.reduceAdd, Nat.reduceLeDiff, e1, avs_cons (show (Slot.val q).av = some q from rfl), e2, TBad.enc, TBad.cells]
  exact Ret.mk g2
theorem tree_RightExp_spec (t : Exp) (s : St) (h : t.size < 2^26) (H : ∀ n ∈ nodesExp t, n.ok) : Ret (cw (.f F_tree_RightExp) [t.enc] s) s (rightN (nodesExp t) (deepExp t)).enc := by
  obtain ⟨q, e1, hq⟩ := tree_expression_spec t s (by omega)
  have hlen := nodesExp_len t
  have hd : NumOK (.fn F_tree_RightExp_1 [.cp t.cells]) (deepExp t) := ⟨_, _, rfl, fun s => by
    rw [tree_RightExp_1_eq]; simp only [go_sem, Nat.reduceLeDiff, tree_deepExp_spec t s (by omega)]⟩
  obtain ⟨s', e2, g2⟩ := tree_right_spec hq hd (by omega) (fun nd hn => TNode.ok_name (H nd hn)) s
  revert e2
  generalize rightN _ _ = b
  intro e2
  obtain ⟨k, a, nm⟩ := b
  rw [tree_RightExp_eq]; simp only [go_sem, Nat.reduceAdd, Nat.reduceLeDiff, e1, avs_cons (show (Slot.val q).av = some q from rfl), e2, TBad.enc, TBad.cells]
  exact Ret.mk g2
end Go.Proofs.YtinphnakebeloaaGreat

namespace Go.Proofs.YtinphnakebeloaaGreat
open Go Go.Am
set_option linter.unusedVariables false
set_option maxRecDepth 4000
/-- a list of types gathered -/
theorem tyAcc {A0 h0 h : List Nat} {s0 s : St} {x y : Slot} {A B : List Ty} (a : AccH T_Ty s0.toks.length h s x (A.map Ty.enc)) (M : Moves A0 h0 h s0 s) (hh : ∀ k ∈ h, k < s.toks.length) (hy : y.list? = some (B.map Ty.enc)) (b : A.length + B.length < 2^30) :
    ∃ x' s', appendS T_Ty (C.ti T_Ty) s x y = some (x', s') ∧ AccH T_Ty s0.toks.length h s' x' ((A ++ B).map Ty.enc) ∧ Moves A0 h0 h s0 s' ∧ s'.locs = s.locs ∧ (∀ k ∈ h, s'.toks[k]? = s.toks[k]?) ∧ (∀ k ∈ h, k < s'.toks.length) :=
  AccH.appendF a M hh hy (fun a => by rw [T_Ty_size]; exact Ty.cells_len a) (by rw [T_Ty_size]; decide) b (by rw [T_Ty_bytes]; decide)
def OwnOK (t : Ty) : Prop := ∀ s, Ret (cw (.f F_ty_own) [t.enc] s) s (ownTy t).enc
theorem ty_own_loop (t : Ty) (hl : t.args.length < 2^28) (s0 : St) (z : List Slot) (hz : z.length = 4) : ∀ (suf pre A : List Ty) (x : Slot) (s : St) (i : Nat), AccH T_Ty s0.toks.length [] s x (A.map Ty.enc) → Moves [] [] [] s0 s → pre ++ suf = t.args → i = pre.length → A.length = pre.length → (∀ t ∈ suf, OwnOK t) →
    Ret (ty_own_l0 z [.val (.int .i64 t.kind), .val (.int .i64 t.n), .val (.str t.name), x] (.val (encS t.nl (t.args.map Ty.enc))) (.val (.int .i64 t.args.length)) (.val (.int .i64 i)) s) s0 (Ty.mk t.kind t.n t.name (A ++ ownTys suf) true).enc
  | [], pre, A, x, s, i, hA, hM, h, hi, hn, H => by
    subst hi
    rw [ty_own_l0_eq]; simp only [go_sem, Nat.reduceAdd, Nat.reduceLeDiff, end_facts (by simpa using h), avs_cons hA.av, ownTys, hz]
    exact ⟨_, by simp only [Ty.enc]; rw [Ty.cells_mk], hM.toGrew⟩
  | u :: suf, pre, A, x, s, i, hA, hM, h, hi, hn, H => by
    subst hi
    obtain ⟨f1, f2, f3⟩ := step_facts (x := .val (encS t.nl (t.args.map Ty.enc))) (list?_encS _ _) h (by omega) (Ty.cells_len u) (by decide)
    obtain ⟨s1, e1, g1⟩ := H u List.mem_cons_self s
    have hlen : pre.length < t.args.length := by rw [← h]; simp
    have hM1 := hM.trans (.grew [] [] g1)
    obtain ⟨x1, s2, e2, a2, m2, -, -, -⟩ := tyAcc (A0 := []) (h0 := []) (h := []) (s0 := s0) (B := [ownTy u]) (y := .full [(ownTy u).enc]) (hA.move (.grew [] [] g1)) hM1 (by simp) rfl (by simp only [List.length_singleton]; omega)
    have ih := ty_own_loop t hl s0 z hz suf (pre ++ [u]) (A ++ [ownTy u]) x1 s2 (pre.length + 1) a2 m2 (by simpa using h) (by simp) (by simp [hn]) (fun w hw => H w (List.mem_cons_of_mem _ hw))
    have c1 := a2.cellOk
    rw [ty_own_l0_eq]; simp only [go_sem, Nat.reduceAdd, Nat.reduceLeDiff, f1, f2, f3, e1, e2, c1, ownTys] at ih ⊢
    exact ih
theorem ty_own_spec : ∀ (k : Nat) (t : Ty), t.size ≤ k → WideTy t → OwnOK t
  | 0, .mk _ _ _ _ _, h, _ => by simp only [Ty.size] at h; omega
  | k + 1, .mk kd n nm l nl, h, h' => fun s => by
    simp only [Ty.size] at h
    have hl := h'.len
    have e1 := ty_own_loop (.mk kd n nm l nl) (by simp only [Ty.args]; omega) s [.val (.int .i64 0), .val (.int .i64 0), .val (.str []), .val .nils] rfl l [] [] (.val .nils) s 0 (.nil _ _ _ _) (.refl _ _ _) rfl rfl rfl (fun t ht => by
      have := Ty.mem_sizes ht
      exact ty_own_spec k t (by omega) (h'.arg ht))
    rw [show ((0 : Nat) : Int) = 0 from rfl] at e1
    rw [ty_own_eq]
    simp only [go_sem, Nat.reduceAdd, Nat.reduceLeDiff, Ty.enc, Ty.kind, Ty.n, Ty.name, Ty.args, Ty.nl, ownTy] at e1 ⊢
    exact e1
theorem ty_Of_loop (nm : Str) (l : List Ty) (y : Slot) (hy : y.list? = some (l.map Ty.enc)) (hl : l.length < 2^28) (s0 : St) (z : List Slot) (hz : z.length = 4) : ∀ (suf pre A : List Ty) (x : Slot) (s : St) (i : Nat), AccH T_Ty s0.toks.length [] s x (A.map Ty.enc) → Moves [] [] [] s0 s → pre ++ suf = l → i = pre.length → A.length = pre.length → (∀ t ∈ suf, OwnOK t) →
    Ret (ty_Of_l0 z [.val (.int .i64 2), .val (.int .i64 0), .val (.str nm), x] y (.val (.int .i64 l.length)) (.val (.int .i64 i)) s) s0 (Ty.mk 2 0 nm (A ++ suf.map ownTy) true).enc
  | [], pre, A, x, s, i, hA, hM, h, hi, hn, H => by
    subst hi
    rw [ty_Of_l0_eq]; simp only [go_sem, Nat.reduceAdd, Nat.reduceLeDiff, end_facts (by simpa using h), avs_cons hA.av, hz]
    exact ⟨_, by simp only [Ty.enc]; rw [Ty.cells_mk], hM.toGrew⟩
  | u :: suf, pre, A, x, s, i, hA, hM, h, hi, hn, H => by
    subst hi
    obtain ⟨f1, f2, f3⟩ := step_facts hy h (by omega) (Ty.cells_len u) (by decide)
    obtain ⟨s1, e1, g1⟩ := H u List.mem_cons_self s
    have hlen : pre.length < l.length := by rw [← h]; simp
    have hM1 := hM.trans (.grew [] [] g1)
    obtain ⟨x1, s2, e2, a2, m2, -, -, -⟩ := tyAcc (A0 := []) (h0 := []) (h := []) (s0 := s0) (B := [ownTy u]) (y := .full [(ownTy u).enc]) (hA.move (.grew [] [] g1)) hM1 (by simp) rfl (by simp only [List.length_singleton]; omega)
    have ih := ty_Of_loop nm l y hy hl s0 z hz suf (pre ++ [u]) (A ++ [ownTy u]) x1 s2 (pre.length + 1) a2 m2 (by simpa using h) (by simp) (by simp [hn]) (fun w hw => H w (List.mem_cons_of_mem _ hw))
    have c1 := a2.cellOk
    rw [ty_Of_l0_eq]; simp only [go_sem, Nat.reduceAdd, Nat.reduceLeDiff, f1, f2, f3, e1, e2, c1] at ih ⊢
    exact ih
theorem ty_Of_spec (nm : Str) (l : List Ty) (v : AV) (hv : (Slot.val v).list? = some (l.map Ty.enc)) (hl : l.length < 2^28) (hw : ∀ t ∈ l, WideTy t) (s : St) : Ret (cw (.f F_ty_Of) [.str nm, v] s) s (ofTy nm l).enc := by
  have e1 := ty_Of_loop nm l (.val v) hv (by omega) s [.val (.int .i64 0), .val (.int .i64 0), .val (.str []), .val .nils] rfl l [] [] (.val .nils) s 0 (.nil _ _ _ _) (.refl _ _ _) rfl rfl rfl (fun t ht => ty_own_spec _ t (Nat.le_refl _) (hw t ht))
  rw [show ((0 : Nat) : Int) = 0 from rfl] at e1
  rw [ty_Of_eq]
  simp only [go_sem, Nat.reduceAdd, Nat.reduceLeDiff, Ty.enc, hv, ofTy, List.length_map] at e1 ⊢
  exact e1
theorem ty_Fn_spec (a b : Ty) (s : St) (ha : WideTy a) (hb : WideTy b) : Ret (cw (.f F_ty_Fn) [a.enc, b.enc] s) s (fnTy a b).enc := by
  obtain ⟨s1, e1, g1⟩ := ty_Of_spec [45, 62] [a, b] (.sl [a.enc, b.enc]) rfl (by simp) (by simp; exact ⟨ha, hb⟩) s
  refine ⟨s1, ?_, g1⟩
  rw [ty_Fn_eq]
  simp only [go_sem, Nat.reduceLeDiff, Ty.enc, fnTy, ofTy] at e1 ⊢
  simp only [go_sem, Nat.reduceAdd, Nat.reduceLeDiff, e1]
/-! ### with others in the place of variables -/
section
variable {σ : Type} (to : Int → σ → Ty × σ) (g : Nat) (caps : List AV) (A : List Nat) (R : σ → List Nat → St → Prop) (P : σ → Prop)
structure ToOK : Prop where
  call : ∀ n st h s, R st h s → P (to n st).2 → ∃ s' h', cw (.f g) (.int .i64 n :: caps) s = some (.ret (.val (to n st).1.enc), s') ∧ R (to n st).2 h' s' ∧ Moves A h h' s s'
  held : ∀ st h s, R st h s → ∀ k ∈ h, k < s.toks.length
  stab : ∀ st h s s', R st h s → s'.locs = s.locs → (∀ k ∈ h, s'.toks[k]? = s.toks[k]?) → R st h s'
  mono : ∀ n st, P (to n st).2 → P st
variable {to g caps A R P}
mutual
theorem chTy_mono (H : ToOK to g caps A R P) : ∀ (t : Ty) (st : σ), P (chTy to t st).2 → P st
  | .mk k n s l b, st, h => by
    simp only [chTy] at h
    cases hk : decide (k = 1) with
    | true => rw [hk] at h; exact H.mono n st h
    | false => rw [hk] at h; exact chTys_mono H l st h
theorem chTys_mono (H : ToOK to g caps A R P) : ∀ (l : List Ty) (st : σ), P (chTys to l st).2 → P st
  | [], st, h => h
  | t :: l, st, h => by
    simp only [chTys] at h
    exact chTy_mono H t st (chTys_mono H l _ h)
end
def ChOK (to : Int → σ → Ty × σ) (g : Nat) (caps : List AV) (A : List Nat) (R : σ → List Nat → St → Prop) (P : σ → Prop) (t : Ty) : Prop :=
  ∀ st h s, R st h s → P (chTy to t st).2 → ∃ s' h', cw (.f F_ty_change) [t.enc, .fn g caps] s = some (.ret (.val (chTy to t st).1.enc), s') ∧ R (chTy to t st).2 h' s' ∧ Moves A h h' s s'
theorem ty_change_loop (H : ToOK to g caps A R P) (t : Ty) (hl : t.args.length < 2^28) (s0 : St) (h0 : List Nat) (z : List Slot) (hz : z.length = 4) : ∀ (suf pre B : List Ty) (x : Slot) (st : σ) (h : List Nat) (s : St) (i : Nat), AccH T_Ty s0.toks.length h s x (B.map Ty.enc) → Moves A h0 h s0 s → R st h s → P (chTys to suf st).2 → pre ++ suf = t.args → i = pre.length → B.length = pre.length → (∀ t ∈ suf, ChOK to g caps A R P t) →
    ∃ s' h', ty_change_l0 (.val (.fn g caps)) z [.val (.int .i64 t.kind), .val (.int .i64 t.n), .val (.str t.name), x] (.val (encS t.nl (t.args.map Ty.enc))) (.val (.int .i64 t.args.length)) (.val (.int .i64 i)) s = some (.ret (.val (Ty.mk t.kind t.n t.name (B ++ (chTys to suf st).1) true).enc), s') ∧ R (chTys to suf st).2 h' s' ∧ Moves A h0 h' s0 s'
  | [], pre, B, x, st, h, s, i, hA, hM, hR, hP, hpre, hi, hn, HC => by
    subst hi
    refine ⟨s, h, ?_, hR, hM⟩
    rw [ty_change_l0_eq]; simp only [go_sem, Nat.reduceAdd, Nat.reduceLeDiff, end_facts (by simpa using hpre), avs_cons hA.av, chTys, hz]
    simp only [Ty.enc]; rw [Ty.cells_mk]
  | u :: suf, pre, B, x, st, h, s, i, hA, hM, hR, hP, hpre, hi, hn, HC => by
    subst hi
    obtain ⟨f1, f2, f3⟩ := step_facts (x := .val (encS t.nl (t.args.map Ty.enc))) (list?_encS _ _) hpre (by omega) (Ty.cells_len u) (by decide)
    have hlen : pre.length < t.args.length := by rw [← hpre]; simp
    simp only [chTys] at hP
    obtain ⟨s1, h1, e1, r1, m1⟩ := HC u List.mem_cons_self st h s hR (chTys_mono H suf _ hP)
    obtain ⟨x1, s2, e2, a2, m2, l2, t2, b2⟩ := tyAcc (B := [(chTy to u st).1]) (y := .full [(chTy to u st).1.enc]) (hA.move m1) (hM.trans m1) (H.held _ _ _ r1) rfl (by simp only [List.length_singleton]; omega)
    have r2 := H.stab _ _ _ s2 r1 l2 t2
    obtain ⟨s3, h3, e3, r3, m3⟩ := ty_change_loop H t hl s0 h0 z hz suf (pre ++ [u]) (B ++ [(chTy to u st).1]) x1 (chTy to u st).2 h1 s2 (pre.length + 1) a2 m2 r2 hP (by simpa using hpre) (by simp) (by simp [hn]) (fun w hw => HC w (List.mem_cons_of_mem _ hw))
    refine ⟨s3, h3, ?_, r3, m3⟩
    have c1 := a2.cellOk
    rw [ty_change_l0_eq]; simp only [go_sem, Nat.reduceAdd, Nat.reduceLeDiff, f1, f2, f3, e1, e2, c1, chTys] at e3 ⊢
    exact e3
theorem ty_change_spec (H : ToOK to g caps A R P) : ∀ (k : Nat) (t : Ty), t.size ≤ k → WideTy t → ChOK to g caps A R P t
  | 0, .mk _ _ _ _ _, h, _ => by simp only [Ty.size] at h; omega
  | k + 1, .mk kd n nm l nl, hs, hs' => fun st h s hR hP => by
    simp only [Ty.size] at hs
    have hl := hs'.len
    simp only [chTy] at hP ⊢
    rw [ty_change_eq]
    by_cases hk : kd = 1
    · rw [decide_eq_true hk, cond_true] at hP
      obtain ⟨s1, h1, e1, r1, m1⟩ := H.call n st h s hR hP
      refine ⟨s1, h1, ?_, by rw [decide_eq_true hk]; exact r1, m1⟩
      simp only [go_sem, Nat.reduceAdd, Nat.reduceLeDiff, Ty.enc, decide_eq_true hk, e1, cond_true]
    · rw [decide_eq_false hk, cond_false] at hP
      obtain ⟨s1, h1, e1, r1, m1⟩ := ty_change_loop H (.mk kd n nm l nl) (by simp only [Ty.args]; omega) s h [.val (.int .i64 0), .val (.int .i64 0), .val (.str []), .val .nils] rfl l [] [] (.val .nils) st h s 0 (.nil _ _ _ _) (.refl _ _ _) hR hP rfl rfl rfl (fun t ht => by
        have := Ty.mem_sizes ht
        exact ty_change_spec H k t (by omega) (hs'.arg ht))
      refine ⟨s1, h1, ?_, by rw [decide_eq_false hk]; exact r1, m1⟩
      rw [show ((0 : Nat) : Int) = 0 from rfl] at e1
      simp only [go_sem, Nat.reduceAdd, Nat.reduceLeDiff, Ty.enc, Ty.kind, Ty.n, Ty.name, Ty.args, Ty.nl, decide_eq_false hk, cond_false] at e1 ⊢
      exact e1
end
theorem toPut_ok (l : List Ty) (v : AV) (hv : (Slot.val v).list? = some (l.map Ty.enc)) (hl : l.length < 2^40) (hs : ∀ t ∈ l, WideTy t) : ToOK (toPut l) F_ty_Put_1 [.cp [v]] [] (fun _ h _ => h = []) (fun _ => True) where
  call n st h s hR _ := by
    subst hR
    have hvl : (ofCells (C.ti T_S_Ty) (List.take (C.ti T_S_Ty).size [v])) = some v := by
      simp only [go_sem, Nat.reduceAdd, Nat.reduceLeDiff]
    by_cases hn : 0 ≤ n ∧ n < l.length
    · obtain ⟨m, rfl⟩ := Int.eq_ofNat_of_zero_le hn.1
      have hm : m < l.length := by omega
      obtain ⟨s1, e1, g1⟩ := ty_own_spec _ l[m] (Nat.le_refl _) (hs _ (List.getElem_mem hm)) s
      refine ⟨s1, [], ?_, rfl, .grew _ _ g1⟩
      have hix : ixS 4 (.val v) (.val (.int .i64 (m : Int))) = some (.val (.cp l[m].cells)) := ixS_get hv (v := l[m].enc) (by simp [hm]) (Ty.cells_len _) (by decide)
      have hge : decide ((m : Int) ≥ 0) = true := decide_eq_true (by omega)
      have hlt : decide ((m : Int) < (l.length : Int)) = true := decide_eq_true (by omega)
      rw [ty_Put_1_eq]
      simp only [go_sem, Nat.reduceAdd, Nat.reduceLeDiff, hge, hv, List.length_map, hlt, hix, Ty.enc] at e1 ⊢
      simp only [go_sem, Nat.reduceAdd, Nat.reduceLeDiff, e1, toPut, hn, and_self, if_true]
      simp [hm]
    · refine ⟨s, [], ?_, rfl, .refl _ _ _⟩
      rw [ty_Put_1_eq]
      simp only [toPut, if_neg hn]
      by_cases h0 : n ≥ 0
      · have hlt : decide (n < (l.length : Int)) = false := decide_eq_false (by omega)
        simp only [go_sem, Nat.reduceAdd, Nat.reduceLeDiff, decide_eq_true h0, hv, hlt, Ty.enc, tvar]
      · simp only [go_sem, Nat.reduceAdd, Nat.reduceLeDiff, decide_eq_false h0, Ty.enc, tvar]
  held := by rintro _ _ _ rfl k hk; cases hk
  stab := by rintro _ _ _ _ rfl _ _; rfl
  mono := fun _ _ _ => trivial
theorem ty_Put_spec (t : Ty) (l : List Ty) (nl : Bool) (s : St) (ht : WideTy t) (hl : l.length < 2^40) (hs : ∀ t ∈ l, WideTy t) : Ret (cw (.f F_ty_Put) [t.enc, encS nl (l.map Ty.enc)] s) s (putTy t l).enc := by
  obtain ⟨s1, h1, e1, r1, m1⟩ := ty_change_spec (toPut_ok l (encS nl (l.map Ty.enc)) (list?_encS _ _) hl hs) _ t (Nat.le_refl _) ht () [] s rfl trivial
  subst r1
  refine ⟨s1, ?_, m1.toGrew⟩
  rw [ty_Put_eq]
  simp only [go_sem, Nat.reduceLeDiff, Ty.enc, putTy] at e1 ⊢
  simp only [go_sem, Nat.reduceAdd, Nat.reduceLeDiff, e1]
/-! ### variables numbered as they come -/
def ekI (n : Int) : AV := .int .i64 n
def oldV (old : List Int) (n : Int) : Option Int := match placeI n old 0 with | some i => some (i : Int) | none => none
/-- the variables met, in memory -/
structure OldR (ml pl ol : Nat) (old : List Int) (h : List Nat) (s : St) : Prop where
  mp : s.locs[pl]? = some (.var [.val (.mp ml)])
  map : ∃ es c D, s.locs[ml]? = some (.map es c) ∧ MapIs ekI ekI (oldV old) es c D
  old : ∃ x, s.locs[ol]? = some (.var [x]) ∧ HeldIs T_int s x (old.map ekI) h
end Go.Proofs.YtinphnakebeloaaGreat

namespace Go.Proofs.YtinphnakebeloaaGreat
open Go Go.Am
set_option linter.unusedVariables false
set_option maxRecDepth 4000
def CloneOK (t : Ty) : Prop := ∀ s, Ret (cw (.f F_decl_clone) [t.enc] s) s t.enc
theorem Ty.ofC (t : Ty) : ofCells (C.ti T_Ty) t.enc.cells = some t.enc := ofCells_agg T_Ty_agg (by rw [T_Ty_size]; exact Ty.cells_len t)
theorem Ty.plainC (t : Ty) : ∀ x ∈ t.cells, plainV x = true := by
  rw [Ty.cells_eq]
  intro x hx
  simp only [List.mem_cons, List.not_mem_nil, or_false] at hx
  rcases hx with rfl | rfl | rfl | rfl
  · rfl
  · rfl
  · rfl
  · cases hb : t.nl <;> cases t.args <;> rfl
theorem decl_clone_loop (t : Ty) (hl : t.args.length < 2^28) (s0 : St) (loc : Nat) (hloc : s0.locs.length ≤ loc) (z : List Slot) (hz : z.length = 4) : ∀ (suf pre : List Ty) (s : St) (i : Nat), Grew s0 s → Holds s loc (t.args.map Ty.enc) → pre ++ suf = t.args → i = pre.length → (∀ u ∈ suf, CloneOK u) →
    Ret (decl_clone_l0 [.val (.int .i64 t.kind), .val (.int .i64 t.n), .val (.str t.name), .val (.vs loc T_Ty 4 0 t.args.length)] z (.val (.vs loc T_Ty 4 0 t.args.length)) (.val (.int .i64 t.args.length)) (.val (.int .i64 i)) s) s0 (.agg [.int .i64 t.kind, .int .i64 t.n, .str t.name, .sl (t.args.map Ty.enc)])
  | [], pre, s, i, hg, hh, h, hi, H => by
    subst hi
    have hf := hh.frz (ti := C.ti) (e := T_Ty) (fun v hv => by
      obtain ⟨u, _, rfl⟩ := List.mem_map.1 hv
      exact ⟨by rw [T_Ty_size]; exact Ty.cells_len u, Ty.ofC u⟩) (fun v hv => by
      obtain ⟨u, _, rfl⟩ := List.mem_map.1 hv
      exact Ty.plainC u) (by rw [T_Ty_size]; decide)
    rw [T_Ty_size, List.length_map] at hf
    rw [decl_clone_l0_eq]; simp only [go_sem, Nat.reduceAdd, Nat.reduceLeDiff, end_facts (by simpa using h), frzSlots, frzSlot_int, frzSlot_str, bindLS_ok, hf, hz]
    exact ⟨_, rfl, grew_kill hg hloc _⟩
  | u :: suf, pre, s, i, hg, hh, h, hi, H => by
    subst hi
    have hlt : pre.length < t.args.length := by rw [← h]; simp
    obtain ⟨f1, -, f3⟩ := step_facts (f := Ty.enc) (x := .val (encS t.nl (t.args.map Ty.enc))) (list?_encS _ _) h (by omega) (Ty.cells_len u) (by decide)
    have hat : (t.args.map Ty.enc)[pre.length]? = some u.enc := by rw [← h]; simp
    have hsz : ∀ v ∈ t.args.map Ty.enc, v.cells.length = 4 := fun v hv => by
      obtain ⟨w, _, rfl⟩ := List.mem_map.1 hv
      exact Ty.cells_len w
    have f2 := hh.ld (t := C.ti T_Ty) (by rw [T_Ty_size]; exact hsz) hat
    rw [T_Ty_size] at f2
    obtain ⟨s1, e1, g1⟩ := H u List.mem_cons_self s
    have f4 : stV s1 (.val (.vp loc (pre.length * 4))) (u.cells.map .val) = some s1 := (hh.move g1).st hsz hat
    have f5 := ixS_vs (sz := 4) (loc := loc) (lo := 0) (m := t.args.length) (e := T_Ty) (k := .i64) (n := pre.length) hlt (by decide)
    rw [Nat.zero_add] at f5
    have ih := decl_clone_loop t hl s0 loc hloc z hz suf (pre ++ [u]) s1 (pre.length + 1) (hg.trans g1) (hh.move g1) (by simpa using h) (by simp) (fun w hw => H w (List.mem_cons_of_mem _ hw))
    rw [decl_clone_l0_eq]; simp only [go_sem, Nat.reduceAdd, Nat.reduceLeDiff, f1, f2, f3, f4, f5, e1] at ih ⊢
    exact ih
theorem clone_tys_nil (s : St) : cw (.f F_slices_Clone_STy_Ty) [.nils] s = some (.ret (.val .nils), s) := by
  rw [slices_Clone_STy_Ty_eq]; simp only [go_sem, eql_nils T_S_Ty_k]
theorem clone_tys_empty (s : St) : cw (.f F_slices_Clone_STy_Ty) [.sl []] s = some (.ret (.full []), s) := by
  rw [slices_Clone_STy_Ty_eq]; simp only [go_sem, eql_sl T_S_Ty_k, appendV, isArrS]
theorem clone_tys_cons (l : List Ty) (hl : l.length < 2^28) (h0 : l ≠ []) (s : St) : cw (.f F_slices_Clone_STy_Ty) [.sl (l.map Ty.enc)] s = some (.ret (.val (.vs s.locs.length T_Ty 4 0 l.length)), s.addLoc (.var ((flatL (l.map Ty.enc)).map .val))) := by
  have e1 := appendV_new (e := T_Ty) (t := C.ti T_Ty) (s := s) (y := .val (.sl (l.map Ty.enc))) (l := l.map Ty.enc) rfl (by simpa using h0) (fun v hv => by
      obtain ⟨u, _, rfl⟩ := List.mem_map.1 hv
      rw [T_Ty_size]; exact Ty.cells_len u) (by rw [T_Ty_size]; decide) (by rw [T_Ty_bytes, List.length_map]; omega) (by rw [List.length_map]; omega)
  rw [T_Ty_size, List.length_map] at e1
  rw [slices_Clone_STy_Ty_eq]; simp only [go_sem, eql_sl T_S_Ty_k, e1]
theorem decl_clone_spec : ∀ (k : Nat) (t : Ty), t.size ≤ k → WideTy t → CloneOK t
  | 0, .mk _ _ _ _ _, h, _ => by simp only [Ty.size] at h; omega
  | k + 1, .mk kd n nm l nl, h, h' => fun s => by
    simp only [Ty.size] at h
    have hl := h'.len
    rw [decl_clone_eq]
    cases l with
    | nil =>
      cases nl with
      | true =>
        simp only [go_sem, Nat.reduceAdd, Nat.reduceLeDiff, clone_tys_nil, Ty.enc, Ty.cells_mk, List.map_nil]
        rw [decl_clone_l0_eq]
        simp only [go_sem, Int.reduceAdd, Nat.reduceAdd, Nat.reduceLeDiff, frzSlots, frzSlot_int, frzSlot_str, frzSlot_nils, bindLS_ok]
        exact Ret.same _ _
      | false =>
        simp only [go_sem, Nat.reduceAdd, Nat.reduceLeDiff, clone_tys_empty, Ty.enc, Ty.cells_mk, List.map_nil, encS_false]
        rw [decl_clone_l0_eq]
        simp only [go_sem, Int.reduceAdd, Nat.reduceAdd, Nat.reduceLeDiff, frzSlots, frzSlot_int, frzSlot_str, frzSlot_full, bindLS_ok]
        exact Ret.same _ _
    | cons u l =>
      have e1 := decl_clone_loop (.mk kd n nm (u :: l) nl) (by simp only [Ty.args]; omega) s s.locs.length (Nat.le_refl _) [.val (.int .i64 0), .val (.int .i64 0), .val (.str []), .val .nils] rfl (u :: l) [] (s.addLoc (.var ((flatL ((u :: l).map Ty.enc)).map .val))) 0 ((Grew.refl s).addLoc _) (by simp [Holds, St.addLoc, Ty.args]) rfl rfl (fun t ht => by
        have := Ty.mem_sizes ht
        exact decl_clone_spec k t (by omega) (h'.arg ht))
      rw [show ((0 : Nat) : Int) = 0 from rfl] at e1
      have e2 := clone_tys_cons (u :: l) hl (by simp) s
      simp only [List.map_cons] at e2
      simp only [go_sem, Nat.reduceAdd, Nat.reduceLeDiff, Ty.enc, Ty.kind, Ty.n, Ty.name, Ty.args, e2, List.map_cons] at e1 ⊢
      exact e1
end Go.Proofs.YtinphnakebeloaaGreat

namespace Go.Am
open Go
mutual
theorem eqTy_refl : ∀ t : Ty, eqTy t t = true
  | .mk k n s l b => by simp only [eqTy, eqTys_refl l, decide_true, Bool.and_self]
theorem eqTys_refl : ∀ l : List Ty, eqTys l l = true
  | [] => by simp only [eqTys]
  | t :: l => by simp only [eqTys, eqTy_refl t, eqTys_refl l, Bool.and_self]
end
theorem goodB_var {k n : Int} {s : Str} {l : List Ty} {b : Bool} (h : goodB (.mk k n s l b) = true) (hk : k = 1) : 0 ≤ n ∧ s = [] ∧ l = [] := by
  have h : goodC k n s l.length (lowB s) = true := h
  unfold goodC at h
  simp only [decide_eq_true hk, cond_true, Bool.and_eq_true, decide_eq_true_eq] at h
  exact ⟨h.1.1, h.1.2, List.eq_nil_of_length_eq_zero (by omega)⟩
mutual
theorem putR_eq (L : List Ty) : ∀ t : Ty, allTy goodB t = true → putR L t = (chTy (toPut L) t ()).1
  | .mk k n s l b, h => by
    simp only [allTy, Bool.and_eq_true] at h
    simp only [putR, chTy]
    by_cases hk : k = 1
    · obtain ⟨h0, rfl, rfl⟩ := goodB_var h.1 hk
      simp only [decide_eq_true hk, cond_true, toPut]
      split
      · rfl
      · simp only [ownTy, ownTys, tvar, hk]
    · simp only [decide_eq_false hk, cond_false, putRs_eq L l h.2]
theorem putRs_eq (L : List Ty) : ∀ l : List Ty, allTys goodB l = true → putRs L l = (chTys (toPut L) l ()).1
  | [], _ => by simp only [putRs, chTys]
  | t :: l, h => by
    simp only [allTys, Bool.and_eq_true] at h
    simp only [putRs, chTys, putR_eq L t h.1, putRs_eq L l h.2]
end
theorem placeR_neg (n : Int) (l : List Int) : placeR n l < 0 ↔ placeI n l 0 = none := by
  unfold placeR
  cases h : placeI n l 0 with
  | none => simp
  | some j => simp
/-- the document's list is the program's -/
theorem varsL_app : ∀ (a b : List Ty) (acc : List Int), varsL (a ++ b) acc = varsL b (varsL a acc)
  | [], b, acc => rfl
  | u :: a, b, acc => by simp only [List.cons_append, varsL, varsL_app a b]
theorem toCanon_old (n : Int) (old : List Int) : (toCanon n old).2 = if placeR n old < 0 then old ++ [n] else old := by
  unfold toCanon
  by_cases h : placeR n old < 0
  · rw [if_pos h]; rw [placeR_neg] at h; rw [h]
  · rw [if_neg h]; rw [placeR_neg] at h
    cases hp : placeI n old 0 with
    | none => exact absurd hp h
    | some j => rfl
mutual
theorem varsL_eq : ∀ (t : Ty) (old : List Int), allTy goodB t = true → varsL (preTy t) old = (chTy toCanon t old).2
  | .mk k n s l b, old, h => by
    simp only [allTy, Bool.and_eq_true] at h
    have hv : varsL (preTy (.mk k n s l b)) old = varsL (preTys l) (bif decide (k = 1) && decide (placeR n old < 0) then old ++ [n] else old) := rfl
    rw [hv]
    simp only [chTy]
    by_cases hk : k = 1
    · obtain ⟨h0, rfl, rfl⟩ := goodB_var h.1 hk
      simp only [decide_eq_true hk, cond_true, Bool.true_and, preTys, varsL, toCanon_old]
      by_cases hp : placeR n old < 0
      · simp [hp]
      · simp [hp]
    · simp only [decide_eq_false hk, cond_false, Bool.false_and, varsLs_eq l old h.2]
theorem varsLs_eq : ∀ (l : List Ty) (old : List Int), allTys goodB l = true → varsL (preTys l) old = (chTys toCanon l old).2
  | [], old, _ => by simp only [preTys, varsL, chTys]
  | t :: l, old, h => by
    simp only [allTys, Bool.and_eq_true] at h
    simp only [preTys, varsL_app, chTys, varsL_eq t old h.1, varsLs_eq l _ h.2]
end
/-- what was met stays where it is -/
def Ext (a b : List Int) : Prop := ∃ c, b = a ++ c
theorem Ext.refl (a : List Int) : Ext a a := ⟨[], by simp⟩
theorem Ext.trans {a b c : List Int} (h : Ext a b) (g : Ext b c) : Ext a c := by
  obtain ⟨x, rfl⟩ := h; obtain ⟨y, rfl⟩ := g; exact ⟨x ++ y, by simp⟩
theorem placeI_ext {n : Int} {i j : Nat} : ∀ {a c : List Int}, placeI n a i = some j → placeI n (a ++ c) i = some j := by
  intro a
  induction a generalizing i with
  | nil => intro c h; cases h
  | cons m a ih =>
    intro c h
    simp only [List.cons_append, placeI] at h ⊢
    split at h
    · rename_i e; rw [if_pos e]; exact h
    · rename_i e; rw [if_neg e]; exact ih h
theorem toCanon_ext (n : Int) (old : List Int) : Ext old (toCanon n old).2 := by
  rw [toCanon_old]; split
  · exact ⟨_, rfl⟩
  · exact .refl _
mutual
theorem chCanon_ext : ∀ (t : Ty) (old : List Int), Ext old (chTy toCanon t old).2
  | .mk k n s l b, old => by
    simp only [chTy]
    cases decide (k = 1) with
    | true => exact toCanon_ext n old
    | false => exact chCanons_ext l old
theorem chCanons_ext : ∀ (l : List Ty) (old : List Int), Ext old (chTys toCanon l old).2
  | [], old => .refl _
  | t :: l, old => by simp only [chTys]; exact (chCanon_ext t old).trans (chCanons_ext l _)
end
theorem toCanon_ty {n : Int} {old fin : List Int} (h : Ext (toCanon n old).2 fin) : (toCanon n old).1 = tvar (placeR n fin) ∧ ∃ j, placeI n fin 0 = some j := by
  obtain ⟨c, rfl⟩ := h
  unfold toCanon placeR
  cases hp : placeI n old 0 with
  | some j =>
    simp only []
    have := placeI_ext (c := c) hp
    rw [this]; exact ⟨rfl, j, rfl⟩
  | none =>
    simp only []
    have h1 : placeI n (old ++ [n]) 0 = some old.length := by
      rw [show placeI n (old ++ [n]) 0 = _ from placeI_app' n n old 0, hp]; simp
    have := placeI_ext (c := c) h1
    rw [this]; exact ⟨rfl, _, rfl⟩
where
  placeI_app' (n m : Int) : ∀ (l : List Int) (i : Nat), placeI n (l ++ [m]) i = match placeI n l i with | some j => some j | none => if n = m then some (i + l.length) else none
  | [], i => by simp [placeI]
  | a :: l, i => by
    simp only [List.cons_append, placeI, placeI_app' n m l (i + 1), List.length_cons]
    by_cases h : n = a
    · simp [h]
    · simp only [h, if_false]
      rw [show i + 1 + l.length = i + (l.length + 1) by omega]
mutual
theorem renR_eq : ∀ (t : Ty) (old fin : List Int), Ext (chTy toCanon t old).2 fin → renR fin t = (chTy toCanon t old).1
  | .mk k n s l b, old, fin, h => by
    simp only [chTy] at h ⊢
    simp only [renR]
    cases hk : decide (k = 1) with
    | true => rw [hk] at h; simp only [cond_true] at h ⊢; exact (toCanon_ty h).1.symm
    | false => rw [hk] at h; simp only [cond_false] at h ⊢; rw [renRs_eq l old fin h]
theorem renRs_eq : ∀ (l : List Ty) (old fin : List Int), Ext (chTys toCanon l old).2 fin → renRs fin l = (chTys toCanon l old).1
  | [], old, fin, _ => by simp only [renRs, chTys]
  | t :: l, old, fin, h => by
    simp only [chTys] at h ⊢
    simp only [renRs]
    rw [renR_eq t old fin ((chCanons_ext l _).trans h), renRs_eq l _ fin h]
end
/-! ### sizes -/
section
variable {σ : Type} (to : Int → σ → Ty × σ) (B : Nat)
mutual
theorem chTy_size (h : ∀ n st, (to n st).1.size ≤ B) (hB : 1 ≤ B) : ∀ (t : Ty) (st : σ), (chTy to t st).1.size ≤ t.size * B
  | .mk k n s l b, st => by
    simp only [chTy, Ty.size, Nat.add_mul, Nat.one_mul]
    have h1 := h n st
    have h2 := chTys_size h hB l st
    cases decide (k = 1) with
    | true => simp only [cond_true]; omega
    | false => simp only [cond_false, Ty.size]; omega
theorem chTys_size (h : ∀ n st, (to n st).1.size ≤ B) (hB : 1 ≤ B) : ∀ (l : List Ty) (st : σ), Ty.sizes (chTys to l st).1 ≤ Ty.sizes l * B
  | [], st => by simp only [chTys, Ty.sizes]; omega
  | t :: l, st => by
    have h1 := chTy_size h hB t st
    have h2 := chTys_size h hB l (chTy to t st).2
    simp only [chTys, Ty.sizes, Nat.add_mul]; omega
end
end
end Go.Am

namespace Go.Proofs.YtinphnakebeloaaGreat
open Go Go.Am
set_option linter.unusedVariables false
structure Place where
  name : Str
  data : Str
  tag : Int
  of_ : Int
  has : Bool
  vars : Int
  ty : Ty
  deriving Inhabited
namespace Place
def cells (p : Place) : List AV := .str p.name :: .str p.data :: .int .i64 p.tag :: .int .i64 p.of_ :: .bool p.has :: .int .i64 p.vars :: p.ty.cells
abbrev enc (p : Place) : AV := .agg p.cells
theorem cells_eq (p : Place) : p.cells = [.str p.name, .str p.data, .int .i64 p.tag, .int .i64 p.of_, .bool p.has, .int .i64 p.vars, .int .i64 p.ty.kind, .int .i64 p.ty.n, .str p.ty.name, encS p.ty.nl (p.ty.args.map Ty.enc)] := by rw [cells, Ty.cells_eq]
theorem cells_len (p : Place) : p.cells.length = 10 := by rw [cells_eq]; rfl
def zero : Place := ⟨[], [], 0, 0, false, 0, .zero⟩
end Place
def sInt : Str := [105, 110, 116]
def sBool : Str := [98, 111, 111, 108]
def sUnit : Str := [117, 110, 105, 116]
def sExn : Str := [101, 120, 110]
def sRef : Str := [114, 101, 102]
def sArrow : Str := [45, 62]
def sStar : Str := [42]
/-- the types that are known from the beginning -/
def known0 : Str → Option Int := upd (upd (upd (upd (upd (upd (upd (fun _ => none) sInt (-1)) sBool (-1)) sUnit (-1)) sExn (-1)) sRef (-1)) sArrow (-1)) sStar (-1)
def knownStep (g : Str → Option Int) (p : Place) : Str → Option Int := match g p.data with | none => upd g p.data p.vars | some _ => g
def knownD (t : List Place) : Str → Option Int := t.foldl knownStep known0
mutual
/-- what is wrong first with a type's names and variables -/
def wrongD (g : Str → Option Int) (params : Int) : Ty → Int × Str
  | .mk k n nm l b => if k = 1 then (if n ≥ params then (16, []) else (0, [])) else match g nm with
    | none => (8, nm)
    | some m => if m ≥ 0 ∧ m ≠ (l.length : Int) then (19, nm) else wrongsD g params l
def wrongsD (g : Str → Option Int) (params : Int) : List Ty → Int × Str
  | [] => (0, [])
  | t :: l => if (wrongD g params t).1 ≠ 0 then wrongD g params t else wrongsD g params l
end
def placeD (nm data : Str) (tag of_ : Int) : Place := ⟨nm, data, tag, of_, false, 0, ofTy data []⟩
def startD : List Place := [placeD [40, 41] sUnit 0 1, placeD [102, 97, 108, 115, 101] sBool 0 2, placeD [116, 114, 117, 101] sBool 1 2, placeD [68, 105, 118] sExn 0 0, placeD [69, 111, 102] sExn 1 0, placeD [77, 97, 116, 99, 104] sExn 2 0]
def findD (nm : Str) : List Place → Option Place
  | [] => none
  | p :: l => if p.name = nm then some p else findD nm l
def foundD (o : Option Place) : AV := match o with | some p => .tup [p.enc, .bool true] | none => .tup [Place.zero.enc, .bool false]
/-- the type that a declaration's constructors make, and how many variables it has -/
def varsTy (n : Nat) : List Ty := (List.range n).map fun i : Nat => tvar (i : Int)
def headD (d : Dec) : Ty × Int := bif decide (d.kind = 4) then (ofTy sExn [], 0) else (ofTy d.name (varsTy d.params.toNat), d.params)
/-- what is wrong with a constructor, where some names were met -/
def conBad (k : Int) (g : Str → Option Int) (vars tag : Int) (met : List Str) (c : Con) : Int × Str :=
  if c.name ∈ met then (9, c.name) else bif decide (k = 4) && decide (tag > 1023) then (19, c.name) else bif c.has then (if (wrongD g vars c.arg).1 ≠ 0 then wrongD g vars c.arg else (0, c.name)) else (0, c.name)
def conPlace (res : Ty) (vars : Int) (data : Str) (tag of_ : Int) (c : Con) : Place := ⟨c.name, data, tag, of_, c.has, vars, bif c.has then fnTy c.arg res else putTy res []⟩
def consD (k : Int) (g : Str → Option Int) (res : Ty) (vars : Int) (data : Str) (of_ : Int) : List Con → List Str → Int → List Place → List Place × TBad
  | [], _, _, out => (out, .zero)
  | c :: l, met, tag, out => if (conBad k g vars tag met c).1 ≠ 0 then ([], ⟨(conBad k g vars tag met c).1, c.at_, (conBad k g vars tag met c).2⟩) else
    consD k g res vars data of_ l (met ++ [c.name]) (tag + 1) (out ++ [conPlace res vars data tag of_ c])
def exns (t : List Place) : Nat := (t.filter fun p => decide (p.data = sExn)).length
/-- a table with a declaration more -/
def addD (t : List Place) (d : Dec) : List Place × TBad :=
  bif decide (d.kind = 3) then (bif (knownD t d.name).isSome then ([], ⟨9, d.at_, d.name⟩) else consD 3 (upd (knownD t) d.name d.params) (headD d).1 (headD d).2 d.name d.cons.length d.cons (t.map Place.name) 0 t)
  else bif decide (d.kind = 4) then consD 4 (knownD t) (headD d).1 (headD d).2 sExn 0 d.cons (t.map Place.name) (exns t) t
  else (t, .zero)
def ofD : List Dec → List Place → List Place × TBad
  | [], t => (t, .zero)
  | d :: l, t => if (addD t d).2.kind ≠ 0 then ([], (addD t d).2) else ofD l (addD t d).1
end Go.Proofs.YtinphnakebeloaaGreat

namespace Go.Proofs.YtinphnakebeloaaGreat
open Go Go.Am
set_option linter.unusedVariables false
set_option maxRecDepth 4000
theorem decl_place_spec (nm data : Str) (tag of_ : Int) (s : St) : Ret (cw (.f F_decl_place) [.str nm, .str data, .int .i64 tag, .int .i64 of_] s) s (placeD nm data tag of_).enc := by
  obtain ⟨s1, e1, g1⟩ := ty_Of_spec data [] .nils rfl (by simp) (by simp) s
  refine ⟨s1, ?_, g1⟩
  rw [decl_place_eq]
  simp only [go_sem, Ty.enc, ofTy, List.map_nil, Ty.cells_mk] at e1
  simp only [go_sem, Nat.reduceAdd, Nat.reduceLeDiff, e1, Place.enc, Place.cells, placeD, ofTy, List.map_nil, Ty.cells_mk]
theorem decl_Start_spec (s : St) : ∃ s', cw (.f F_decl_Start) [] s = some (.ret (.full (startD.map Place.enc)), s') ∧ Grew s s' := by
  obtain ⟨s1, e1, g1⟩ := decl_place_spec [40, 41] sUnit 0 1 s
  obtain ⟨s2, e2, g2⟩ := decl_place_spec [102, 97, 108, 115, 101] sBool 0 2 s1
  obtain ⟨s3, e3, g3⟩ := decl_place_spec [116, 114, 117, 101] sBool 1 2 s2
  obtain ⟨s4, e4, g4⟩ := decl_place_spec [68, 105, 118] sExn 0 0 s3
  obtain ⟨s5, e5, g5⟩ := decl_place_spec [69, 111, 102] sExn 1 0 s4
  obtain ⟨s6, e6, g6⟩ := decl_place_spec [77, 97, 116, 99, 104] sExn 2 0 s5
  refine ⟨s6, ?_, ((((g1.trans g2).trans g3).trans g4).trans g5).trans g6⟩
  rw [decl_Start_eq]
  simp only [sUnit, sBool, sExn] at e1 e2 e3 e4 e5 e6
  simp only [go_sem, e1, e2, e3, e4, e5, e6, Place.enc, Place.cells_len, startD, sUnit, sBool, sExn, List.map_cons, List.map_nil]
theorem decl_Find_loop (nm : Str) (t : List Place) (hl : t.length < 2^40) (hw : ∀ p ∈ t, WideTy p.ty) (z : List Slot) (hz : z.length = 10) (y : Slot) (hy : y.list? = some (t.map Place.enc)) : ∀ (suf pre : List Place) (s : St) (i : Nat), pre ++ suf = t → i = pre.length →
    Ret (decl_Find_l0 (.val (.str nm)) z y (.val (.int .i64 t.length)) (.val (.int .i64 i)) s) s (foundD (findD nm suf))
  | [], pre, s, i, h, hi => by
    subst hi
    rw [decl_Find_l0_eq]; simp only [go_sem, Nat.reduceAdd, Nat.reduceLeDiff, end_facts (by simpa using h), hz]
    exact Ret.same _ _
  | p :: suf, pre, s, i, h, hi => by
    subst hi
    obtain ⟨f1, f2, f3⟩ := step_facts hy h (by omega) (Place.cells_len p) (by decide)
    obtain ⟨s1, e1, g1⟩ := decl_clone_spec _ p.ty (Nat.le_refl _) (hw p (by rw [← h]; simp)) s
    have ih := decl_Find_loop nm t hl hw z hz y hy suf (pre ++ [p]) s (pre.length + 1) (by simpa using h) (by simp)
    rw [decl_Find_l0_eq]
    simp only [Ty.enc, Ty.cells_eq] at e1
    simp only [go_sem, Nat.reduceAdd, Nat.reduceLeDiff, f1, f2, f3, Place.cells_eq] at ih ⊢
    simp only [go_sem, Nat.reduceAdd, Nat.reduceLeDiff, e1, hz, findD]
    by_cases hn : p.name = nm
    · simp only [go_sem, hn, if_true, foundD, Place.enc, Place.cells_eq]
      exact ⟨s1, rfl, g1⟩
    · simp only [go_sem, hn]
      exact ih
theorem decl_Find_spec (nm : Str) (t : List Place) (hl : t.length < 2^40) (hw : ∀ p ∈ t, WideTy p.ty) (v : AV) (hv : (Slot.val v).list? = some (t.map Place.enc)) (s : St) : Ret (cw (.f F_decl_Find) [v, .str nm] s) s (foundD (findD nm t)) := by
  have e1 := decl_Find_loop nm t hl hw ([.val (.str []), .val (.str []), .val (.int .i64 0), .val (.int .i64 0), .val (.bool false), .val (.int .i64 0), .val (.int .i64 0), .val (.int .i64 0), .val (.str []), .val .nils]) rfl (.val v) hv t [] s 0 rfl rfl
  rw [show ((0 : Nat) : Int) = 0 from rfl] at e1
  rw [decl_Find_eq]
  simp only [go_sem, hv, List.length_map] at e1 ⊢
  exact e1
/-- a made list of places grows -/
theorem placeAcc {s0 s : St} {x : Slot} {l : List Place} (h : AccR T_Place s0 s x (l.map Place.enc)) (p : Place) (hl : l.length < 2^29) :
    ∃ x' s', appendS T_Place (C.ti T_Place) s x (.full [p.enc]) = some (x', s') ∧ AccR T_Place s0 s' x' ((l ++ [p]).map Place.enc) :=
  AccR.appendF (B := [p]) h rfl (fun a => by rw [T_Place_size]; exact Place.cells_len a) (by rw [T_Place_size]; decide) (by simp only [List.length_singleton]; omega) (by rw [T_Place_bytes]; decide)
theorem decl_double_loop (t : List Place) (hl : t.length < 2^28) (hw : ∀ p ∈ t, WideTy p.ty) (y : Slot) (hy : y.list? = some (t.map Place.enc)) (s0 : St) : ∀ (suf pre : List Place) (x : Slot) (s : St) (i : Nat), AccR T_Place s0 s x (pre.map Place.enc) → pre ++ suf = t → i = pre.length →
    RetA (decl_double_l0 x y (.val (.int .i64 t.length)) (.val (.int .i64 i)) s) T_Place s0 (t.map Place.enc)
  | [], pre, x, s, i, ha, h, hi => by
    subst hi
    rw [decl_double_l0_eq]; simp only [go_sem, end_facts (by simpa using h)]
    have : pre = t := by simpa using h
    subst this
    exact ⟨x, s, rfl, ha⟩
  | p :: suf, pre, x, s, i, ha, h, hi => by
    subst hi
    obtain ⟨f1, f2, f3⟩ := step_facts hy h (by omega) (Place.cells_len p) (by decide)
    obtain ⟨s1, e1, g1⟩ := decl_clone_spec _ p.ty (Nat.le_refl _) (hw p (by rw [← h]; simp)) s
    have hlen : pre.length < t.length := by rw [← h]; simp
    obtain ⟨x2, s2, e2, a2⟩ := placeAcc (ha.move g1) p (by omega)
    have ih := decl_double_loop t hl hw y hy s0 suf (pre ++ [p]) x2 s2 (pre.length + 1) a2 (by simpa using h) (by simp)
    rw [decl_double_l0_eq]
    simp only [Ty.enc, Ty.cells_eq] at e1
    simp only [Place.enc, Place.cells_eq] at e2
    simp only [go_sem, Nat.reduceAdd, Nat.reduceLeDiff, f1, f2, f3, Place.cells_eq] at ih ⊢
    simp only [go_sem, Nat.reduceAdd, Nat.reduceLeDiff, e1, e2]
    exact ih
theorem decl_double_spec (t : List Place) (hl : t.length < 2^28) (hw : ∀ p ∈ t, WideTy p.ty) (v : AV) (hv : (Slot.val v).list? = some (t.map Place.enc)) (s : St) : RetA (cw (.f F_decl_double) [v] s) T_Place s (t.map Place.enc) := by
  obtain ⟨x, s1, e1, a1⟩ := make_new T_Place (C.ti T_Place) s (t.length : Int) (by omega) (by omega) (by rw [T_Place_bytes]; decide) (by rw [T_Place_size]; decide) Place.zero.enc (by rw [T_Place_zero]; exact ofCells_agg T_Place_agg (by rw [T_Place_size]; rfl))
  have e2 := decl_double_loop t hl hw (.val v) hv s t [] x s1 0 a1 rfl rfl
  rw [show ((0 : Nat) : Int) = 0 from rfl] at e2
  rw [decl_double_eq]
  simp only [go_sem, hv, List.length_map, e1] at e2 ⊢
  exact e2
end Go.Proofs.YtinphnakebeloaaGreat

namespace Go.Proofs.YtinphnakebeloaaGreat
open Go Go.Am
set_option linter.unusedVariables false
set_option maxRecDepth 4000
def MapSI (s : St) (loc : Nat) (g : Str → Option Int) : Prop := ∃ es c D, s.locs[loc]? = some (.map es c) ∧ MapIs (fun k : Str => AV.str k) (fun n : Int => AV.int .i64 n) g es c D
theorem MapSI.new (s : St) : MapSI (s.addLoc (.map [] 0)) s.locs.length (fun _ => none) := ⟨[], 0, [], at_addLoc _ _, .nil⟩
theorem MapSI.lt {s : St} {loc : Nat} {g : Str → Option Int} (h : MapSI s loc g) : loc < s.locs.length := by
  obtain ⟨es, c, D, h1, -⟩ := h
  exact (List.getElem?_eq_some_iff.1 h1).1
theorem MapSI.move {s s' : St} {loc : Nat} {g : Str → Option Int} (h : MapSI s loc g) (k : Grew s s') : MapSI s' loc g := by
  obtain ⟨es, c, D, h1, h2⟩ := h
  exact ⟨es, c, D, k.loc h1, h2⟩
theorem MapSI.moves {A h1 h2 : List Nat} {s s' : St} {loc : Nat} {g : Str → Option Int} (h : MapSI s loc g) (m : Moves A h1 h2 s s') (hn : loc ∉ A) : MapSI s' loc g := by
  obtain ⟨es, c, D, e1, e2⟩ := h
  exact ⟨es, c, D, m.loc e1 hn, e2⟩
theorem T_int_zv : (C.ti T_int).zeroV = some (.int .i64 0) := zeroV_one T_int_good T_int_agg T_int_zero
theorem MapSI.get {s : St} {loc : Nat} {g : Str → Option Int} (h : MapSI s loc g) (k : Str) : lookupS (C.ti T_string) (C.ti T_int) s (.val (.mp loc)) (.val (.str k)) false = some (.val (.int .i64 ((g k).getD 0))) := by
  obtain ⟨es, c, D, h1, h2⟩ := h
  have := lookupS_map h2 keyStr k (kt := C.ti T_string) (et := C.ti T_int) (isKey_str T_string_k k) h1 T_int_zv false
  rw [this]
  cases g k <;> rfl
theorem MapSI.get2 {s : St} {loc : Nat} {g : Str → Option Int} (h : MapSI s loc g) (k : Str) : lookupS (C.ti T_string) (C.ti T_int) s (.val (.mp loc)) (.val (.str k)) true = some (.val (.tup [.int .i64 ((g k).getD 0), .bool (g k).isSome])) := by
  obtain ⟨es, c, D, h1, h2⟩ := h
  have := lookupS_map h2 keyStr k (kt := C.ti T_string) (et := C.ti T_int) (isKey_str T_string_k k) h1 T_int_zv true
  rw [this]
  cases g k <;> rfl
theorem MapSI.set {s : St} {loc : Nat} {g : Str → Option Int} (h : MapSI s loc g) (k : Str) (v : Int) :
    ∃ s', updateS (C.ti T_string) (C.ti T_int) s (.val (.mp loc)) (.val (.str k)) (.val (.int .i64 v)) = some (.no, s') ∧ MapSI s' loc (upd g k v) ∧ (∀ hs, Moves [loc] hs hs s s') ∧ s'.toks = s.toks ∧ s'.locs.length = s.locs.length := by
  obtain ⟨es, c, D, h1, h2⟩ := h
  obtain ⟨es', c', D', e1, e2⟩ := updateS_map h2 keyStr (kt := C.ti T_string) (et := C.ti T_int) k (isKey_str T_string_k k) h1 (x := .val (.int .i64 v)) (v := v) rfl (by rw [T_int_size]; rfl)
  exact ⟨_, e1, ⟨es', c', D', set_at h1, e2⟩, fun hs => (Moves.refl [loc] hs s).setLoc (.inl (by simp)) _, rfl, by simp⟩
end Go.Proofs.YtinphnakebeloaaGreat

namespace Go.Proofs.YtinphnakebeloaaGreat
open Go Go.Am
set_option linter.unusedVariables false
set_option maxRecDepth 4000
/-- a new map is turned: nothing that was turns -/
theorem MapSI.setNew {s0 s : St} {loc : Nat} {g : Str → Option Int} (h : MapSI s loc g) (m : Moves [] [] [] s0 s) (hl : s0.locs.length ≤ loc) (k : Str) (v : Int) :
    ∃ s', updateS (C.ti T_string) (C.ti T_int) s (.val (.mp loc)) (.val (.str k)) (.val (.int .i64 v)) = some (.no, s') ∧ MapSI s' loc (upd g k v) ∧ Moves [] [] [] s0 s' := by
  obtain ⟨s', e1, h1, m1, -⟩ := h.set k v
  exact ⟨s', e1, h1, m.since (m1 []) (fun i hi => by simp at hi; subst hi; exact .inr hl) (by simp)⟩
theorem decl_known_loop (t : List Place) (hl : t.length < 2^28) (y : Slot) (hy : y.list? = some (t.map Place.enc)) (s0 : St) (loc : Nat) (hloc : s0.locs.length ≤ loc) : ∀ (suf pre : List Place) (g : Str → Option Int) (s : St) (i : Nat), Moves [] [] [] s0 s → MapSI s loc g → pre ++ suf = t → i = pre.length →
    ∃ s', decl_known_l0 (.val (.mp loc)) y (.val (.int .i64 t.length)) (.val (.int .i64 i)) s = some (.ret (.val (.mp loc)), s') ∧ MapSI s' loc (suf.foldl knownStep g) ∧ Grew s0 s'
  | [], pre, g, s, i, hm, hs, h, hi => by
    subst hi
    rw [decl_known_l0_eq]; simp only [go_sem, end_facts (by simpa using h)]
    exact ⟨s, rfl, hs, hm.toGrew⟩
  | p :: suf, pre, g, s, i, hm, hs, h, hi => by
    subst hi
    obtain ⟨f1, f2, f3⟩ := step_facts hy h (by omega) (Place.cells_len p) (by decide)
    rw [decl_known_l0_eq]
    cases hg : g p.data with
    | none =>
      obtain ⟨s1, e1, h1, m1⟩ := hs.setNew hm hloc p.data p.vars
      obtain ⟨s2, e2, h2, m2⟩ := decl_known_loop t hl y hy s0 loc hloc suf (pre ++ [p]) (upd g p.data p.vars) s1 (pre.length + 1) m1 h1 (by simpa using h) (by simp)
      have g1 := hs.get2 p.data
      rw [hg] at g1
      simp only [go_sem, Nat.reduceAdd, Nat.reduceLeDiff, f1, f2, f3, Place.cells_eq, List.foldl_cons, knownStep, hg] at e2 ⊢
      simp only [go_sem, g1, e1, Option.getD_none, Option.isSome_none, Bool.not_false]
      exact ⟨s2, e2, h2, m2⟩
    | some n =>
      obtain ⟨s2, e2, h2, m2⟩ := decl_known_loop t hl y hy s0 loc hloc suf (pre ++ [p]) g s (pre.length + 1) hm hs (by simpa using h) (by simp)
      have g1 := hs.get2 p.data
      rw [hg] at g1
      simp only [go_sem, Nat.reduceAdd, Nat.reduceLeDiff, f1, f2, f3, Place.cells_eq, List.foldl_cons, knownStep, hg] at e2 ⊢
      simp only [go_sem, g1, Option.getD_some, Option.isSome_some, Bool.not_true]
      exact ⟨s2, e2, h2, m2⟩
theorem decl_known_spec (t : List Place) (hl : t.length < 2^28) (v : AV) (hv : (Slot.val v).list? = some (t.map Place.enc)) (s : St) :
    ∃ s', cw (.f F_decl_known) [v] s = some (.ret (.val (.mp s.locs.length)), s') ∧ MapSI s' s.locs.length (knownD t) ∧ Grew s s' := by
  have m0 : Moves [] [] [] s (s.addLoc (.map [] 0)) := (Moves.refl _ _ s).addLoc _
  obtain ⟨s1, e1, h1, m1⟩ := (MapSI.new s).setNew m0 (Nat.le_refl _) sInt (-1)
  obtain ⟨s2, e2, h2, m2⟩ := h1.setNew m1 (Nat.le_refl _) sBool (-1)
  obtain ⟨s3, e3, h3, m3⟩ := h2.setNew m2 (Nat.le_refl _) sUnit (-1)
  obtain ⟨s4, e4, h4, m4⟩ := h3.setNew m3 (Nat.le_refl _) sExn (-1)
  obtain ⟨s5, e5, h5, m5⟩ := h4.setNew m4 (Nat.le_refl _) sRef (-1)
  obtain ⟨s6, e6, h6, m6⟩ := h5.setNew m5 (Nat.le_refl _) sArrow (-1)
  obtain ⟨s7, e7, h7, m7⟩ := h6.setNew m6 (Nat.le_refl _) sStar (-1)
  obtain ⟨s8, e8, h8, m8⟩ := decl_known_loop t hl (.val v) hv s s.locs.length (Nat.le_refl _) t [] known0 s7 0 m7 h7 rfl rfl
  refine ⟨s8, ?_, h8, m8⟩
  rw [show ((0 : Nat) : Int) = 0 from rfl] at e8
  simp only [sInt, sBool, sUnit, sExn, sRef, sArrow, sStar] at e1 e2 e3 e4 e5 e6 e7
  rw [decl_known_eq]
  simp only [go_sem, Int.reduceNeg, e1, e2, e3, e4, e5, e6, e7, hv, List.length_map] at e8 ⊢
  exact e8
/-- the function that looks at a type's nodes, in its variable -/
def wrFn (params : Int) (mloc me : Nat) : AV := .fn F_decl_wrong_1 [.cp [.int .i64 params], .cp [.mp mloc], .vp me 0]
structure WrAt (s : St) (g : Str → Option Int) (params : Int) (mloc me : Nat) : Prop where
  map : MapSI s mloc g
  fn : s.locs[me]? = some (.var [.val (wrFn params mloc me)])
theorem WrAt.move {s s' : St} {g : Str → Option Int} {params : Int} {mloc me : Nat} (h : WrAt s g params mloc me) (k : Grew s s') : WrAt s' g params mloc me := ⟨h.map.move k, k.loc h.fn⟩
def WrOK (g : Str → Option Int) (params : Int) (mloc me : Nat) (t : Ty) : Prop := ∀ s, WrAt s g params mloc me → cw (.f F_decl_wrong_1) [t.enc, .cp [.int .i64 params], .cp [.mp mloc], .vp me 0] s = some (.ret (.val (.tup [.int .i64 (wrongD g params t).1, .str (wrongD g params t).2])), s)
theorem decl_wrong_loop (g : Str → Option Int) (params : Int) (mloc me : Nat) (l : List Ty) (hl : l.length < 2^28) (y : Slot) (hy : y.list? = some (l.map Ty.enc)) (s : St) (hs : WrAt s g params mloc me) : ∀ (suf pre : List Ty) (i : Nat), pre ++ suf = l → i = pre.length → (∀ t ∈ suf, WrOK g params mloc me t) →
    decl_wrong_1_l0 (.val (.vp me 0)) y (.val (.int .i64 l.length)) (.val (.int .i64 i)) s = some (.ret (.val (.tup [.int .i64 (wrongsD g params suf).1, .str (wrongsD g params suf).2])), s)
  | [], pre, i, h, hi, H => by
    subst hi
    rw [decl_wrong_1_l0_eq]; simp only [go_sem, end_facts (by simpa using h), wrongsD]
  | t :: suf, pre, i, h, hi, H => by
    subst hi
    obtain ⟨f1, f2, f3⟩ := step_facts hy h (by omega) (Ty.cells_len t) (by decide)
    have e1 := H t List.mem_cons_self s hs
    have ih := decl_wrong_loop g params mloc me l hl y hy s hs suf (pre ++ [t]) (pre.length + 1) (by simpa using h) (by simp) (fun w hw => H w (List.mem_cons_of_mem _ hw))
    have f4 : ∀ t : TI, ldV t false s (.val (.vp me 0)) = ofSlots t (([.val (wrFn params mloc me)] : List Slot).take t.size) := fun t => ldV_vp hs.fn
    rw [decl_wrong_1_l0_eq]
    simp only [go_sem, Nat.reduceAdd, Nat.reduceLeDiff, ne_eq, f1, f2, f3, f4, wrFn, wrongsD, e1] at ih ⊢
    by_cases hn : (wrongD g params t).1 = 0
    · simp only [go_sem, hn, ih, not_true_eq_false, if_false]
    · simp only [go_sem, not_false_eq_true, hn, if_true]
theorem decl_wrong_1_spec (g : Str → Option Int) (params : Int) (mloc me : Nat) : ∀ (k : Nat) (t : Ty), t.size ≤ k → WideTy t → WrOK g params mloc me t
  | 0, .mk _ _ _ _ _, h, _ => by simp only [Ty.size] at h; omega
  | k + 1, .mk kd n nm l nl, h, h' => fun s hs => by
    simp only [Ty.size] at h
    have hl := h'.len
    have e1 := decl_wrong_loop g params mloc me l hl (.val (encS nl (l.map Ty.enc))) (list?_encS _ _) s hs l [] 0 rfl rfl (fun t ht => by
      have := Ty.mem_sizes ht
      exact decl_wrong_1_spec g params mloc me k t (by omega) (h'.arg ht))
    rw [show ((0 : Nat) : Int) = 0 from rfl] at e1
    have g1 := hs.map.get2 nm
    rw [decl_wrong_1_eq]
    by_cases hk : kd = 1
    · subst hk
      simp only [go_sem, Nat.reduceAdd, Nat.reduceLeDiff, ne_eq, Ty.enc, wrongD, if_true]
      by_cases hn : n ≥ params
      · simp only [go_sem, hn, if_true, decide_true]
      · simp only [go_sem, hn, if_false, decide_false]
    · cases hg : g nm with
      | none =>
        rw [hg] at g1
        simp only [go_sem, Nat.reduceAdd, Nat.reduceLeDiff, Ty.enc, wrongD, hk, hg, g1, if_false, decide_false, Option.isSome_none, Bool.not_false]
      | some m =>
        rw [hg] at g1
        simp only [go_sem, Nat.reduceAdd, Nat.reduceLeDiff, ne_eq, Ty.enc, wrongD, hk, hg, g1, if_false, decide_false, Option.isSome_some, Bool.not_true, Option.getD_some, List.length_map]
        by_cases h1 : m ≥ 0
        · by_cases h2 : m = (l.length : Int)
          · simp only [go_sem, not_false_eq_true, h1, h2, e1]
            simp
          · simp only [go_sem, not_false_eq_true, h1, h2, e1]
            simp
        · simp only [go_sem, h1, e1]
          simp
theorem decl_wrong_spec (g : Str → Option Int) (params : Int) (t : Ty) (hw : WideTy t) (mloc : Nat) (s : St) (hs : MapSI s mloc g) : ∃ s', cw (.f F_decl_wrong) [.mp mloc, .int .i64 params, t.enc] s = some (.ret (.val (.tup [.int .i64 (wrongD g params t).1, .str (wrongD g params t).2])), s') ∧ Grew s s' := by
  have hg : Grew s (s.addLoc (.var [.val (wrFn params mloc s.locs.length)])) := (Grew.refl s).addLoc _
  have hf : (s.addLoc (.var [.val (wrFn params mloc s.locs.length)])).locs[s.locs.length]? = some (.var [.val (wrFn params mloc s.locs.length)]) := at_addLoc _ _
  have e1 := decl_wrong_1_spec g params mloc s.locs.length _ t (Nat.le_refl _) hw _ ⟨hs.move hg, hf⟩
  have f4 : ∀ t : TI, ldV t false (s.addLoc (.var [.val (wrFn params mloc s.locs.length)])) (.val (.vp s.locs.length 0)) = ofSlots t (([.val (wrFn params mloc s.locs.length)] : List Slot).take t.size) := fun t => ldV_vp hf
  refine ⟨_, ?_, hg⟩
  rw [decl_wrong_eq]
  simp only [Ty.enc, wrFn] at e1 f4
  simp only [go_sem, Nat.reduceAdd, Nat.reduceLeDiff, Ty.enc, f4, e1, wrFn]
end Go.Proofs.YtinphnakebeloaaGreat

namespace Go.Proofs.YtinphnakebeloaaGreat
open Go Go.Am
set_option linter.unusedVariables false
/-- what the walk does to what is kept: asked of a constructor; a name that is not bound; what is wrong; is it over? -/
structure ScI (σ : Type) where
  con : Str → Int → Int → σ → σ
  free : Str → Int → σ → σ
  fail : Int → Int → Str → σ → σ
  stop : σ → Bool
def addS (out : List Str) (s : Str) : List Str := if s ∈ out then out else out ++ [s]
def varsCases : List Case → List Str
  | [] => []
  | .mk p _ :: l => varsPat p ++ varsCases l
/-- the names that a declaration binds, each once -/
def namesOf (k : Int) (c : List Case) (f : List Fun) : List Str := (bif decide (k = 1) then varsCases c else bif decide (k = 2) then f.map Fun.name else []).foldl addS []
def namesD (d : Dec) : List Str := namesOf d.kind d.case d.funs
section
variable {σ : Type} (I : ScI σ)
mutual
def scPat : Pat → List Str × σ → List Str × σ
  | .mk k a nm _ l _, st => scPats l (bif decide (k = 2) || decide (k = 6) then (st.1 ++ [nm], if nm ∈ st.1 then I.fail 9 a nm st.2 else st.2) else bif decide (k = 4) then (st.1, I.con nm a l.length st.2) else st)
def scPats : List Pat → List Str × σ → List Str × σ
  | [], st => st
  | p :: l, st => scPats l (scPat p st)
end
def scVar (k a : Int) (nm : Str) (kids : Nat) (bd : List Str) (st : σ) : σ :=
  bif decide (k = 2) then (if nm ∈ bd then st else I.free nm a st) else bif decide (k = 3) then I.con nm a kids st else st
mutual
def scCase : Case → List Str → σ → σ
  | .mk p e, bd, st => scExp e (varsPat p ++ bd) (scPat I p ([], st)).2
def scExp : Exp → List Str → σ → σ
  | .mk k a nm _ l _ c _ d _, bd, st => bif I.stop st then st else
    scCases c (scDecs d bd (scVar I k a nm l.length bd st)).1 (scExps l (scDecs d bd (scVar I k a nm l.length bd st)).1 (scDecs d bd (scVar I k a nm l.length bd st)).2)
def scExps : List Exp → List Str → σ → σ
  | [], _, st => st
  | e :: l, bd, st => scExps l bd (scExp e bd st)
def scCases : List Case → List Str → σ → σ
  | [], _, st => st
  | c :: l, bd, st => scCases l bd (scCase c bd st)
def scDecs : List Dec → List Str → σ → List Str × σ
  | [], bd, st => (bd, st)
  | d :: r, bd, st => scDecs r (scDec d bd st).1 (scDec d bd st).2
def scDec : Dec → List Str → σ → List Str × σ
  | .mk k _ _ _ _ _ c _ f _, bd, st => bif decide (k = 1) then (namesOf k c f ++ bd, scVals c bd st) else bif decide (k = 2) then (namesOf k c f ++ bd, scFuns f (namesOf k c f ++ bd) [] st) else (bd, st)
def scVals : List Case → List Str → σ → σ
  | [], _, st => st
  | .mk p e :: r, bd, st => scVals r bd (scExp e bd (scPat I p ([], st)).2)
def scFuns : List Fun → List Str → List Str → σ → σ
  | [], _, _, st => st
  | .mk nm a c :: r, bd, had, st => scFuns r bd (had ++ [nm]) (scCase c bd (if nm ∈ had then I.fail 9 a nm st else st))
end
end
end Go.Proofs.YtinphnakebeloaaGreat

namespace Go.Proofs.YtinphnakebeloaaGreat
open Go Go.Am
set_option linter.unusedVariables false
set_option maxRecDepth 4000
/-- what is turned since an earlier state, where what is new since then is free -/
theorem _root_.Go.Am.Moves.next {A B h0 h h' : List Nat} {s0 s s' : St} (m : Moves A h0 h s0 s) (c : Moves B h h' s s') (hB : ∀ i ∈ B, i ∈ A ∨ s0.locs.length ≤ i) : Moves A h0 h' s0 s' where
  tl := Nat.le_trans m.tl c.tl
  tk := fun k hk hn => by
    have := m.tl
    rw [c.tk k (by omega) (fun hm => (m.new k hm).elim hn (fun h => by omega)), m.tk k hk hn]
  new := fun k hk => (c.new k hk).elim (m.new k) (fun h => .inr (Nat.le_trans m.tl h))
  ll := Nat.le_trans m.ll c.ll
  lk := fun i hi hn => by
    have := m.ll
    rw [c.lk i (by omega) (fun hm => (hB i hm).elim hn (fun h => by omega)), m.lk i hi hn]
/-- a map that counts names -/
def KN (s : St) (loc : Nat) (bd : List Str) : Prop := ∃ g, MapSI s loc g ∧ ∀ k, (g k).getD 0 = (bd.count k : Int)
theorem KN.new (s : St) : KN (s.addLoc (.map [] 0)) s.locs.length [] := ⟨_, MapSI.new s, fun k => by simp⟩
theorem KN.lt {s : St} {loc : Nat} {bd : List Str} (h : KN s loc bd) : loc < s.locs.length := by obtain ⟨g, h1, -⟩ := h; exact h1.lt
theorem KN.at {s s' : St} {loc : Nat} {bd : List Str} (h : KN s loc bd) (e : s'.locs[loc]? = s.locs[loc]?) : KN s' loc bd := by
  obtain ⟨g, ⟨es, c, D, h1, h2⟩, h3⟩ := h
  exact ⟨g, ⟨es, c, D, by rw [e]; exact h1, h2⟩, h3⟩
theorem KN.moves {A h1 h2 : List Nat} {s s' : St} {loc : Nat} {bd : List Str} (h : KN s loc bd) (m : Moves A h1 h2 s s') (hn : loc ∉ A) : KN s' loc bd := h.at (m.lk loc h.lt hn)
theorem KN.get {s : St} {loc : Nat} {bd : List Str} (h : KN s loc bd) (k : Str) : lookupS (C.ti T_string) (C.ti T_int) s (.val (.mp loc)) (.val (.str k)) false = some (.val (.int .i64 (bd.count k : Nat))) := by
  obtain ⟨g, h1, h2⟩ := h
  rw [h1.get k, h2]
theorem KN.set {s : St} {loc : Nat} {bd bd' : List Str} (h : KN s loc bd) (k : Str) (n : Int) (hn : n = (bd'.count k : Nat)) (ho : ∀ k', k' ≠ k → bd'.count k' = bd.count k') :
    ∃ s', updateS (C.ti T_string) (C.ti T_int) s (.val (.mp loc)) (.val (.str k)) (.val (.int .i64 n)) = some (.no, s') ∧ KN s' loc bd' ∧ (∀ hs, Moves [loc] hs hs s s') ∧ s'.toks = s.toks ∧ s'.locs.length = s.locs.length := by
  obtain ⟨g, h1, h2⟩ := h
  obtain ⟨s', e1, h3, h4, h5, h6⟩ := h1.set k n
  refine ⟨s', e1, ⟨_, h3, fun k' => ?_⟩, h4, h5, h6⟩
  by_cases e : k' = k
  · subst e; rw [upd_same]; exact hn
  · rw [upd_ne _ _ e, h2, ho k' e]
theorem wrap_inc {n : Nat} (h : n < 2^62) : IntKind.i64.wrap ((n : Int) + 1) = ((n + 1 : Nat) : Int) := by rw [wrap64 (by omega) (by omega)]; rfl
theorem wrap_dec {n : Nat} (h : n < 2^62) : IntKind.i64.wrap (((n + 1 : Nat) : Int) - 1) = (n : Int) := by rw [wrap64 (by omega) (by omega)]; omega
theorem KN.inc {s : St} {loc : Nat} {bd : List Str} (h : KN s loc bd) (k : Str) (hl : bd.length < 2^62) :
    ∃ s', updateS (C.ti T_string) (C.ti T_int) s (.val (.mp loc)) (.val (.str k)) (.val (.int .i64 (IntKind.i64.wrap ((bd.count k : Nat) + 1)))) = some (.no, s') ∧ KN s' loc (bd ++ [k]) ∧ (∀ hs, Moves [loc] hs hs s s') ∧ s'.toks = s.toks ∧ s'.locs.length = s.locs.length := by
  have := List.count_le_length (a := k) (l := bd)
  refine h.set k _ ?_ fun k' hk => ?_
  · rw [wrap_inc (by omega)]; simp
  · have : [k].count k' = 0 := List.count_eq_zero.2 (by simpa using hk)
    rw [List.count_append, this]; rfl
theorem KN.perm {s : St} {loc : Nat} {bd bd' : List Str} (h : KN s loc bd) (p : bd.Perm bd') : KN s loc bd' := by
  obtain ⟨g, h1, h2⟩ := h
  exact ⟨g, h1, fun k => by rw [h2, p.count_eq]⟩
section
variable {σ : Type}
/-- what the walk may rely on -/
structure ScOK (I : ScI σ) (wl kl : Nat) (A : List Nat) (cf : FuncId) (cc : List AV) (ff : FuncId) (fc : List AV) (R : Nat → σ → List Nat → St → Prop) : Prop where
  cell : ∀ {n st h s}, R n st h s → ∃ (b : TBad) (q : Bool), s.locs[wl]? = some (.var [.val (.mp kl), .val (.int .i64 b.kind), .val (.int .i64 b.at_), .val (.str b.name), .val (.fn cf cc), .val (.fn ff fc), .val (.bool (I.stop st)), .val (.bool q)])
  con : ∀ {n st h s} nm a k, R (n + 1) st h s → ∃ s' h', cw (.f cf) (.str nm :: .int .i64 a :: .int .i64 k :: cc) s = some (.ret (.val (.tup [])), s') ∧ R n (I.con nm a k st) h' s' ∧ Moves A h h' s s'
  free : ∀ {n st h s} nm a, R (n + 1) st h s → ∃ s' h', cw (.f ff) (.str nm :: .int .i64 a :: fc) s = some (.ret (.val (.tup [])), s') ∧ R n (I.free nm a st) h' s' ∧ Moves A h h' s s'
  fail : ∀ {n st h s} e nm a, R (n + 1) st h s → ∃ s' h', cw (.f F_scope_walk_fail) [.vp wl 0, .int .i64 e, .int .i64 a, .str nm] s = some (.ret (.val (.tup [])), s') ∧ R n (I.fail e a nm st) h' s' ∧ Moves A h h' s s'
  stab : ∀ {n st h s s'}, R n st h s → (∀ i ∈ A, s'.locs[i]? = s.locs[i]?) → (∀ k ∈ h, s'.toks[k]? = s.toks[k]?) → R n st h s'
  held : ∀ {n st h s}, R n st h s → ∀ k ∈ h, k < s.toks.length
  low : ∀ {n st h s}, R n st h s → ∀ i ∈ A, i < s.locs.length
  le : ∀ {n m st h s}, R n st h s → m ≤ n → R m st h s
  wA : wl ∈ A
  kA : kl ∉ A
/-- the walk's state, and the names that are bound -/
structure RW (R : Nat → σ → List Nat → St → Prop) (kl : Nat) (n : Nat) (st : σ) (bd : List Str) (h : List Nat) (s : St) : Prop where
  r : R n st h s
  kn : KN s kl bd
  few : bd.length + n < 2^40
variable {I : ScI σ} {wl kl : Nat} {A : List Nat} {cf : FuncId} {cc : List AV} {ff : FuncId} {fc : List AV} {R : Nat → σ → List Nat → St → Prop}
/-- nothing of the walk's own turns -/
theorem RW.other (H : ScOK I wl kl A cf cc ff fc R) {n : Nat} {st : σ} {bd : List Str} {h : List Nat} {s s' : St} (w : RW R kl n st bd h s) {B : List Nat} (m : Moves B h h s s') (ht : ∀ k ∈ h, s'.toks[k]? = s.toks[k]?) (hB : ∀ i ∈ B, i ∉ A ∧ i ≠ kl) : RW R kl n st bd h s' :=
  ⟨H.stab w.r (fun i hi => m.lk i (H.low w.r i hi) fun hb => (hB i hb).1 hi) ht, w.kn.moves m fun hb => (hB _ hb).2 rfl, w.few⟩
theorem RW.grew (H : ScOK I wl kl A cf cc ff fc R) {n : Nat} {st : σ} {bd : List Str} {h : List Nat} {s s' : St} (w : RW R kl n st bd h s) (g : Grew s s') : RW R kl n st bd h s' :=
  w.other H (Moves.grew [] h g) (fun k hk => by rw [List.getElem?_eq_getElem (H.held w.r k hk)]; exact g.tok (List.getElem?_eq_getElem _)) (by simp)
theorem RW.le (H : ScOK I wl kl A cf cc ff fc R) {n m : Nat} {st : σ} {bd : List Str} {h : List Nat} {s : St} (w : RW R kl n st bd h s) (k : m ≤ n) : RW R kl m st bd h s := ⟨H.le w.r k, w.kn, by have := w.few; omega⟩
/-- the walk's own turned, the names did not -/
theorem RW.of (H : ScOK I wl kl A cf cc ff fc R) {n m : Nat} {st st' : σ} {bd : List Str} {h h' : List Nat} {s s' : St} (w : RW R kl n st bd h s) (r : R m st' h' s') (k : m ≤ n) (M : Moves A h h' s s') : RW R kl m st' bd h' s' :=
  ⟨r, w.kn.moves M H.kA, by have := w.few; omega⟩
theorem RW.known (H : ScOK I wl kl A cf cc ff fc R) {n : Nat} {st : σ} {bd : List Str} {h : List Nat} {s : St} (w : RW R kl n st bd h s) : ldV (C.ti T_x_map_string_int) false s (.val (.vp wl 0)) = some (.val (.mp kl)) := by
  obtain ⟨b, q, hc⟩ := H.cell w.r
  rw [ldV_vp hc]; simp only [go_sem]
theorem RW.conF (H : ScOK I wl kl A cf cc ff fc R) {n : Nat} {st : σ} {bd : List Str} {h : List Nat} {s : St} (w : RW R kl n st bd h s) : ldV (C.ti T_x_func_string_int_int) false s (.val (.vp wl 4)) = some (.val (.fn cf cc)) := by
  obtain ⟨b, q, hc⟩ := H.cell w.r
  rw [ldV_vp hc]; simp only [go_sem]
theorem RW.freeF (H : ScOK I wl kl A cf cc ff fc R) {n : Nat} {st : σ} {bd : List Str} {h : List Nat} {s : St} (w : RW R kl n st bd h s) : ldV (C.ti T_x_func_string_int) false s (.val (.vp wl 5)) = some (.val (.fn ff fc)) := by
  obtain ⟨b, q, hc⟩ := H.cell w.r
  rw [ldV_vp hc]; simp only [go_sem]
theorem RW.stopB (H : ScOK I wl kl A cf cc ff fc R) {n : Nat} {st : σ} {bd : List Str} {h : List Nat} {s : St} (w : RW R kl n st bd h s) : ldV (C.ti T_bool) false s (.val (.vp wl 6)) = some (.val (.bool (I.stop st))) := by
  obtain ⟨b, q, hc⟩ := H.cell w.r
  rw [ldV_vp hc]; simp only [go_sem]
theorem RW.kset (H : ScOK I wl kl A cf cc ff fc R) {n m : Nat} {st : σ} {bd bd' : List Str} {h : List Nat} {s s' : St} (w : RW R kl n st bd h s) (k : KN s' kl bd') (M : ∀ hs, Moves [kl] hs hs s s') (t : s'.toks = s.toks) (f : bd'.length + m < 2^40) (l : m ≤ n) : RW R kl m st bd' h s' :=
  ⟨H.le (H.stab w.r (fun i hi => (M h).lk i (H.low w.r i hi) (by simp; intro e; subst e; exact H.kA hi)) (fun k _ => by rw [t])) l, k, f⟩
theorem scope_bind_loop (H : ScOK I wl kl A cf cc ff fc R) (l : List Str) (v : AV) (hv : (Slot.val v).list? = some (l.map .str)) (hl : l.length < 2^40) : ∀ (suf pre : List Str) (n : Nat) (st : σ) (bd : List Str) (h : List Nat) (s : St) (i : Nat), pre ++ suf = l → i = pre.length → RW R kl (n + suf.length) st bd h s →
    ∃ s', scope_walk_bind_l0 (.val (.cp [.vp wl 0])) (.val (.cp [v])) (.val v) (.val (.int .i64 l.length)) (.val (.int .i64 i)) s = some (.ret (.val (.fn F_scope_walk_bind_1 [.cp [v], .cp [.vp wl 0]])), s') ∧ RW R kl n st (bd ++ suf) h s' ∧ (∀ hs, Moves [kl] hs hs s s')
  | [], pre, n, st, bd, h, s, i, hp, hi, w => by
    subst hi
    rw [scope_walk_bind_l0_eq]; simp only [go_sem, Nat.reduceAdd, Nat.reduceLeDiff, end_facts (by simpa using hp)]
    exact ⟨s, rfl, by simpa using w, fun hs => .refl _ _ _⟩
  | k :: suf, pre, n, st, bd, h, s, i, hp, hi, w => by
    subst hi
    obtain ⟨f1, f2, f3⟩ := step_facts hv hp (by omega) (sz := 1) rfl (by decide)
    have hf := w.few
    obtain ⟨s1, e1, k1, m1, t1, -⟩ := w.kn.inc k (by simp only [List.length_cons] at hf; omega)
    simp only [List.length_cons] at w hf
    have w1 : RW R kl (n + suf.length) st (bd ++ [k]) h s1 := w.kset H k1 m1 t1 (by simp only [List.length_append, List.length_cons, List.length_nil]; omega) (by omega)
    obtain ⟨s2, e2, w2, m2⟩ := scope_bind_loop H l v hv hl suf (pre ++ [k]) n st (bd ++ [k]) h s1 (pre.length + 1) (by simpa using hp) (by simp) w1
    refine ⟨s2, ?_, by simpa using w2, fun hs => (m1 hs).trans (m2 hs)⟩
    rw [scope_walk_bind_l0_eq, ← e2]
    have g1 := w.known H
    have g2 := w.kn.get k
    simp only [go_sem, Nat.reduceAdd, Nat.reduceLeDiff, f1, f2, f3, g1, g2, e1]
theorem scope_bind_spec (H : ScOK I wl kl A cf cc ff fc R) (l : List Str) (v : AV) (hv : (Slot.val v).list? = some (l.map .str)) {n : Nat} {st : σ} {bd : List Str} {h : List Nat} {s : St} (w : RW R kl (n + l.length) st bd h s) :
    ∃ s', cw (.f F_scope_walk_bind) [.vp wl 0, v] s = some (.ret (.val (.fn F_scope_walk_bind_1 [.cp [v], .cp [.vp wl 0]])), s') ∧ RW R kl n st (l ++ bd) h s' ∧ (∀ hs, Moves [kl] hs hs s s') := by
  have hf := w.few
  obtain ⟨s2, e2, w2, m2⟩ := scope_bind_loop H l v hv (by omega) l [] n st bd h s 0 rfl rfl w
  refine ⟨s2, ?_, ⟨w2.r, w2.kn.perm List.perm_append_comm, by have := w2.few; simpa [Nat.add_comm] using this⟩, m2⟩
  rw [show ((0 : Nat) : Int) = 0 from rfl] at e2
  have hc : (Slot.val v).cellOk = true ∧ v.cells = [v] := by
    cases v <;> simp [Slot.list?] at hv <;> exact ⟨rfl, rfl⟩
  rw [scope_walk_bind_eq, ← e2]
  simp only [go_sem, Nat.reduceAdd, Nat.reduceLeDiff, hc.1, hv, List.length_map]
/-- what lets names go -/
def BackOK (R : Nat → σ → List Nat → St → Prop) (kl : Nat) (f : FuncId) (c : List AV) (l : List Str) : Prop := ∀ {n : Nat} {st : σ} {bd bd' : List Str} {h : List Nat} {s : St}, RW R kl n st bd' h s → bd'.Perm (l ++ bd) →
  ∃ s', cw (.f f) c s = some (.ret (.val (.tup [])), s') ∧ RW R kl n st bd h s' ∧ (∀ hs, Moves [kl] hs hs s s')
theorem scope_back_loop (H : ScOK I wl kl A cf cc ff fc R) (l : List Str) (v : AV) (hv : (Slot.val v).list? = some (l.map .str)) (hl : l.length < 2^40) : ∀ (suf pre : List Str) (n : Nat) (st : σ) (bd bd' : List Str) (h : List Nat) (s : St) (i : Nat), pre ++ suf = l → i = pre.length → RW R kl n st bd' h s → bd'.Perm (suf ++ bd) →
    ∃ s', scope_walk_bind_1_l0 (.val (.cp [.vp wl 0])) (.val v) (.val (.int .i64 l.length)) (.val (.int .i64 i)) s = some (.ret (.val (.tup [])), s') ∧ RW R kl n st bd h s' ∧ (∀ hs, Moves [kl] hs hs s s')
  | [], pre, n, st, bd, bd', h, s, i, hp, hi, w, p => by
    subst hi
    rw [scope_walk_bind_1_l0_eq]; simp only [go_sem, Nat.reduceAdd, Nat.reduceLeDiff, end_facts (by simpa using hp)]
    exact ⟨s, rfl, ⟨w.r, w.kn.perm p, by have := w.few; rw [p.length_eq] at this; simpa using this⟩, fun hs => .refl _ _ _⟩
  | k :: suf, pre, n, st, bd, bd', h, s, i, hp, hi, w, p => by
    subst hi
    obtain ⟨f1, f2, f3⟩ := step_facts hv hp (by omega) (sz := 1) rfl (by decide)
    have hf := w.few
    have hlen := p.length_eq
    have hlen2 := List.count_le_length (a := k) (l := suf ++ bd)
    simp only [List.cons_append, List.length_cons] at hlen
    have hcount : bd'.count k = (suf ++ bd).count k + 1 := by rw [p.count_eq]; simp
    obtain ⟨s1, e1, k1, m1, t1, -⟩ := w.kn.set (bd' := suf ++ bd) k (IntKind.i64.wrap (((bd'.count k : Nat) : Int) - 1)) (by rw [hcount, wrap_dec (by omega)]) (fun k' hk => by rw [p.count_eq, List.cons_append, List.count_cons_of_ne (Ne.symm hk)])
    have w1 : RW R kl n st (suf ++ bd) h s1 := w.kset H k1 m1 t1 (by omega) (by omega)
    obtain ⟨s2, e2, w2, m2⟩ := scope_back_loop H l v hv hl suf (pre ++ [k]) n st bd (suf ++ bd) h s1 (pre.length + 1) (by simpa using hp) (by simp) w1 (List.Perm.refl _)
    refine ⟨s2, ?_, w2, fun hs => (m1 hs).trans (m2 hs)⟩
    rw [scope_walk_bind_1_l0_eq, ← e2]
    have g1 := w.known H
    have g2 := w.kn.get k
    simp only [go_sem, Nat.reduceAdd, Nat.reduceLeDiff, f1, f2, f3, g1, g2, e1]
theorem scope_back_spec (H : ScOK I wl kl A cf cc ff fc R) (l : List Str) (v : AV) (hv : (Slot.val v).list? = some (l.map .str)) (hl : l.length < 2^40) : BackOK R kl F_scope_walk_bind_1 [.cp [v], .cp [.vp wl 0]] l := by
  intro n st bd bd' h s w p
  obtain ⟨s2, e2, w2, m2⟩ := scope_back_loop H l v hv hl l [] n st bd bd' h s 0 rfl rfl w p
  refine ⟨s2, ?_, w2, m2⟩
  rw [show ((0 : Nat) : Int) = 0 from rfl] at e2
  rw [scope_walk_bind_1_eq, ← e2]
  simp only [go_sem, Nat.reduceAdd, Nat.reduceLeDiff, hv, List.length_map]
theorem scope_none_spec : BackOK R kl F_scope_walk_dec_1 [] [] := by
  intro n st bd bd' h s w p
  refine ⟨s, ?_, ⟨w.r, w.kn.perm p, by have := w.few; rw [p.length_eq] at this; simpa using this⟩, fun hs => .refl _ _ _⟩
  rw [scope_walk_dec_1_eq]; simp only [go_sem]
end
end Go.Proofs.YtinphnakebeloaaGreat

namespace Go.Proofs.YtinphnakebeloaaGreat
open Go Go.Am
set_option linter.unusedVariables false
set_option maxRecDepth 4000
theorem index_str_loop (nm : Str) (l : List Str) (y : Slot) (hy : y.list? = some (l.map .str)) (hl : l.length < 2^40) (s : St) : ∀ (suf pre : List Str) (i : Nat), pre ++ suf = l → i = pre.length →
    ∃ r : Int, slices_Index_Sstring_string_l0 y (.val (.str nm)) (.val (.int .i64 l.length)) (.val (.int .i64 i)) s = some (.ret (.val (.int .i64 r)), s) ∧ (r ≥ 0 ↔ nm ∈ suf)
  | [], pre, i, hp, hi => by
    subst hi
    rw [slices_Index_Sstring_string_l0_eq]; simp only [go_sem, Int.reduceNeg, end_facts (by simpa using hp)]
    exact ⟨-1, rfl, by simp⟩
  | k :: suf, pre, i, hp, hi => by
    subst hi
    obtain ⟨f1, f2, f3⟩ := step_facts hy hp (by omega) (sz := 1) rfl (by decide)
    obtain ⟨r, e1, h1⟩ := index_str_loop nm l y hy hl s suf (pre ++ [k]) (pre.length + 1) (by simpa using hp) (by simp)
    rw [slices_Index_Sstring_string_l0_eq]
    by_cases e : nm = k
    · refine ⟨(pre.length : Int), ?_, by simp [e]⟩
      simp only [go_sem, Int.reduceNeg, Nat.reduceAdd, Nat.reduceLeDiff, f1, f2, f3, e, decide_true]
    · refine ⟨r, ?_, by rw [h1]; simp [e]⟩
      rw [← e1]
      simp only [go_sem, Int.reduceNeg, Nat.reduceAdd, Nat.reduceLeDiff, f1, f2, f3, e, decide_false]
theorem contains_str_spec (nm : Str) (l : List Str) (v : AV) (hv : (Slot.val v).list? = some (l.map .str)) (hl : l.length < 2^40) (s : St) : cw (.f F_slices_Contains_Sstring_string) [v, .str nm] s = some (.ret (.val (.bool (decide (nm ∈ l)))), s) := by
  obtain ⟨r, e1, h1⟩ := index_str_loop nm l (.val v) hv hl s l [] 0 rfl rfl
  rw [show ((0 : Nat) : Int) = 0 from rfl] at e1
  have e2 : cw (.f F_slices_Index_Sstring_string) [v, .str nm] s = some (.ret (.val (.int .i64 r)), s) := by
    rw [slices_Index_Sstring_string_eq, ← e1]
    simp only [go_sem, hv, List.length_map]
  rw [slices_Contains_Sstring_string_eq]
  simp only [go_sem, e2]
  rw [decide_eq_decide.2 h1]
/-- a variable holds a list of names -/
def NamesAt (ol : Nat) (s : St) (l : List Str) (h : List Nat) : Prop := ∃ x, s.locs[ol]? = some (.var [x]) ∧ HeldIs T_string s x (l.map .str) h
theorem NamesAt.stab {ol : Nat} {s s' : St} {l : List Str} {h : List Nat} (n : NamesAt ol s l h) (e : s'.locs[ol]? = s.locs[ol]?) (t : ∀ k ∈ h, s'.toks[k]? = s.toks[k]?) : NamesAt ol s' l h := by
  obtain ⟨x, h1, h2⟩ := n
  exact ⟨x, by rw [e]; exact h1, h2.stab t⟩
theorem NamesAt.lt {ol : Nat} {s : St} {l : List Str} {h : List Nat} (n : NamesAt ol s l h) : ol < s.locs.length := by
  obtain ⟨x, h1, h2⟩ := n
  exact (List.getElem?_eq_some_iff.1 h1).1
theorem NamesAt.held {ol : Nat} {s : St} {l : List Str} {h : List Nat} (n : NamesAt ol s l h) : ∀ k ∈ h, k < s.toks.length := by
  obtain ⟨x, h1, h2⟩ := n
  exact h2.held
theorem NamesAt.grew {ol : Nat} {s s' : St} {l : List Str} {h : List Nat} (n : NamesAt ol s l h) (g : Grew s s') : NamesAt ol s' l h :=
  n.stab (by rw [List.getElem?_eq_getElem n.lt]; exact g.loc (List.getElem?_eq_getElem _)) fun k hk => by rw [List.getElem?_eq_getElem (n.held k hk)]; exact g.tok (List.getElem?_eq_getElem _)
theorem NamesAt.new (s : St) : NamesAt s.locs.length (s.addLoc (.var [.val .nils])) [] [] := ⟨_, at_addLoc _ _, .inl ⟨rfl, rfl, rfl⟩⟩
theorem NamesAt.push {ol : Nat} {s : St} {l : List Str} {h : List Nat} (n : NamesAt ol s l h) (hl : l.length < 2^28) (nm : Str) :
    ∃ x x' s1 s' h', s.locs[ol]? = some (.var [x]) ∧ (∃ v, x.av = some v ∧ (Slot.val v).list? = some (l.map .str)) ∧ appendS T_string (C.ti T_string) s x (.full [.str nm]) = some (x', s1) ∧ x'.cellOk = true ∧ stV s1 (.val (.vp ol 0)) [x'] = some s' ∧ NamesAt ol s' (l ++ [nm]) h' ∧ Moves [ol] h h' s s' := by
  obtain ⟨x, h1, h2⟩ := n
  obtain ⟨x', s1, h', e1, h3, h4, m1⟩ := h2.appendF (B := [nm]) (t := C.ti T_string) (y := .full [.str nm]) rfl (fun a => by rw [T_string_size]; rfl) (by rw [T_string_size]; decide) (by simp only [List.length_singleton]; omega) (by rw [T_string_bytes]; decide)
  have hat : s1.locs[ol]? = some (.var [x]) := by rw [h4]; exact h1
  refine ⟨x, x', s1, { s1 with locs := s1.locs.set ol (.var [x']) }, h', h1, ⟨_, h2.av, by simp only [go_sem]⟩, e1, h3.cellOk, ?_, ⟨x', set_at hat, h3.stab fun _ _ => rfl⟩, (m1.wider (by simp)).setLoc (.inl (by simp)) _⟩
  rw [stV_vp hat (by simp)]; rfl
theorem NamesAt.read {ol : Nat} {s : St} {l : List Str} {h : List Nat} (n : NamesAt ol s l h) : ∃ x v, ldV (C.ti T_S_string) false s (.val (.vp ol 0)) = some x ∧ x.av = some v ∧ (Slot.val v).list? = some (l.map .str) := by
  obtain ⟨x, h1, h2⟩ := n
  refine ⟨x, _, ?_, h2.av, by simp only [go_sem]⟩
  rw [ldV_vp h1]; simp only [go_sem, Nat.reduceAdd, Nat.reduceLeDiff]
theorem scope_names_1_spec {ol : Nat} {s : St} {l : List Str} {h : List Nat} (n : NamesAt ol s l h) (hl : l.length < 2^28) (nm : Str) :
    ∃ s' h', cw (.f F_scope_names_1) [.str nm, .vp ol 0] s = some (.ret (.val (.tup [])), s') ∧ NamesAt ol s' (addS l nm) h' ∧ Moves [ol] h h' s s' := by
  obtain ⟨x, x', s1, s', h', h1, ⟨v, hv, hv2⟩, e1, hc, e2, n2, m2⟩ := n.push hl nm
  have e3 := contains_str_spec nm l v hv2 (by omega) s
  have e4 : ldV (C.ti T_S_string) false s (.val (.vp ol 0)) = some x := by rw [ldV_vp h1]; simp only [go_sem, Nat.reduceAdd, Nat.reduceLeDiff]
  by_cases hm : nm ∈ l
  · refine ⟨s, h, ?_, by rw [addS, if_pos hm]; exact n, .refl _ _ _⟩
    rw [scope_names_1_eq]
    simp only [go_sem, Nat.reduceAdd, e4, avs_cons hv, e3, hm, decide_true, Bool.not_true]
  · refine ⟨s', h', ?_, by rw [addS, if_neg hm]; exact n2, m2⟩
    rw [scope_names_1_eq]
    simp only [go_sem, Nat.reduceAdd, e4, avs_cons hv, e3, hm, decide_false, Bool.not_false, e1, hc, e2]
theorem foldl_addS_len : ∀ (l acc : List Str), acc.length ≤ (l.foldl addS acc).length ∧ (l.foldl addS acc).length ≤ acc.length + l.length
  | [], acc => by simp
  | k :: l, acc => by
    have := foldl_addS_len l (addS acc k)
    have h : (addS acc k).length = acc.length ∨ (addS acc k).length = acc.length + 1 := by
      unfold addS; split <;> simp
    simp only [List.foldl_cons, List.length_cons]; omega
theorem scope_names_l1_spec {ol : Nat} (L : List Str) (y : Slot) (hy : y.list? = some (L.map .str)) (hl : L.length < 2^28) (x1 : List Slot) (a b : Slot) (i0 : Nat) (hi0 : i0 < 2^40) : ∀ (suf pre : List Str) (s : St) (l : List Str) (h : List Nat) (i : Nat), pre ++ suf = L → i = pre.length → NamesAt ol s l h → l.length + suf.length < 2^28 →
    ∃ s' h', scope_names_l1 x1 (.val (.vp ol 0)) (.val (.fn F_scope_names_1 [.vp ol 0])) a b (.val (.int .i64 i0)) y (.val (.int .i64 L.length)) (.val (.int .i64 i)) s = scope_names_l0 x1 (.val (.vp ol 0)) (.val (.fn F_scope_names_1 [.vp ol 0])) a b (.val (.int .i64 (i0 + 1 : Nat))) s' ∧ NamesAt ol s' (suf.foldl addS l) h' ∧ Moves [ol] h h' s s'
  | [], pre, s, l, h, i, hp, hi, n, hlen => by
    subst hi
    refine ⟨s, h, ?_, n, .refl _ _ _⟩
    rw [scope_names_l1_eq]; simp only [go_sem, end_facts (by simpa using hp), wrap_inc (show i0 < 2^62 by omega)]
  | k :: suf, pre, s, l, h, i, hp, hi, n, hlen => by
    subst hi
    obtain ⟨f1, f2, f3⟩ := step_facts hy hp (by omega) (sz := 1) rfl (by decide)
    simp only [List.length_cons] at hlen
    obtain ⟨s1, h1, e1, n1, m1⟩ := scope_names_1_spec n (by omega) k
    have hle : (addS l k).length ≤ l.length + 1 := by unfold addS; split <;> simp
    obtain ⟨s2, h2, e2, n2, m2⟩ := scope_names_l1_spec L y hy hl x1 a b i0 hi0 suf (pre ++ [k]) s1 (addS l k) h1 (pre.length + 1) (by simpa using hp) (by simp) n1 (by omega)
    refine ⟨s2, h2, ?_, n2, m1.trans m2⟩
    rw [scope_names_l1_eq, ← e2]
    simp only [go_sem, Nat.reduceAdd, Nat.reduceLeDiff, f1, f2, f3, e1]
theorem foldl_app (l : List Str) (a b : List Str) : (a ++ b).foldl addS l = b.foldl addS (a.foldl addS l) := List.foldl_append
theorem scope_names_l2_spec {ol : Nat} (F : List Fun) (y : Slot) (hy : y.list? = some (F.map Fun.enc)) (hl : F.length < 2^28) : ∀ (suf pre : List Fun) (s : St) (l : List Str) (h : List Nat) (i : Nat), pre ++ suf = F → i = pre.length → NamesAt ol s l h → l.length + suf.length < 2^28 →
    ∃ x s' h', scope_names_l2 (.val (.vp ol 0)) (.val (.fn F_scope_names_1 [.vp ol 0])) y (.val (.int .i64 F.length)) (.val (.int .i64 i)) s = some (.ret x, s') ∧ HeldIs T_string s' x (((suf.map Fun.name).foldl addS l).map .str) h' ∧ Moves [ol] h h' s s'
  | [], pre, s, l, h, i, hp, hi, n, hlen => by
    subst hi
    obtain ⟨x, h1, h2⟩ := n
    refine ⟨x, s, h, ?_, h2, .refl _ _ _⟩
    rw [scope_names_l2_eq]; simp only [go_sem, Nat.reduceAdd, Nat.reduceLeDiff, end_facts (by simpa using hp), ldV_vp h1]
  | .mk nm a c :: suf, pre, s, l, h, i, hp, hi, n, hlen => by
    subst hi
    obtain ⟨f1, f2, f3⟩ := step_facts hy hp (by omega) (Fun.cells_len (.mk nm a c)) (by decide)
    simp only [List.length_cons] at hlen
    obtain ⟨s1, h1, e1, n1, m1⟩ := scope_names_1_spec n (by omega) nm
    have hle : (addS l nm).length ≤ l.length + 1 := by unfold addS; split <;> simp
    obtain ⟨x, s2, h2, e2, n2, m2⟩ := scope_names_l2_spec F y hy hl suf (pre ++ [.mk nm a c]) s1 (addS l nm) h1 (pre.length + 1) (by simpa using hp) (by simp) n1 (by omega)
    refine ⟨x, s2, h2, ?_, n2, m1.trans m2⟩
    rw [scope_names_l2_eq, ← e2]
    simp only [go_sem, Nat.reduceAdd, Nat.reduceLeDiff, f1, f2, f3, e1]
theorem scope_names_j0_spec {ol : Nat} (d : Dec) (hd : d.size < 2^26) (s : St) (l : List Str) (h : List Nat) (n : NamesAt ol s l h) (hlen : l.length + d.funs.length < 2^28) :
    ∃ x s' h', scope_names_j0 (d.cells.map .val) (.val (.vp ol 0)) (.val (.fn F_scope_names_1 [.vp ol 0])) s = some (.ret x, s') ∧ HeldIs T_string s' x (((bif decide (d.kind = 2) then d.funs.map Fun.name else []).foldl addS l).map .str) h' ∧ Moves [ol] h h' s s' := by
  rw [scope_names_j0_eq]
  cases hk : decide (d.kind = 2) with
  | true =>
    obtain ⟨x, s', h', e1, h1, m1⟩ := scope_names_l2_spec d.funs (.val (encS d.fb (d.funs.map Fun.enc))) (list?_encS _ _) (by omega) d.funs [] s l h 0 rfl rfl n hlen
    refine ⟨x, s', h', ?_, h1, m1⟩
    rw [show ((0 : Nat) : Int) = 0 from rfl] at e1
    rw [← e1]
    simp only [go_sem, Nat.reduceAdd, Nat.reduceLeDiff, Dec.cells_eq, hk, List.map_cons, List.map_nil, List.length_map]
  | false =>
    obtain ⟨x, h1, h2⟩ := n
    refine ⟨x, s, h, ?_, h2, .refl _ _ _⟩
    simp only [go_sem, Nat.reduceAdd, Nat.reduceLeDiff, Dec.cells_eq, hk, List.map_cons, List.map_nil, ldV_vp h1]
theorem scope_names_l0_spec {ol : Nat} (d : Dec) (hd : d.size < 2^26) (y : Slot) (hy : y.list? = some (d.case.map Case.enc)) (hk : d.kind ≠ 2) : ∀ (suf pre : List Case) (s : St) (l : List Str) (h : List Nat) (i : Nat), pre ++ suf = d.case → i = pre.length → NamesAt ol s l h → l.length + Case.sizes suf < 2^27 → Case.sizes suf < 2^26 → d.case.length < 2^26 → d.funs.length < 2^26 →
    ∃ x s' h', scope_names_l0 (d.cells.map .val) (.val (.vp ol 0)) (.val (.fn F_scope_names_1 [.vp ol 0])) y (.val (.int .i64 d.case.length)) (.val (.int .i64 i)) s = some (.ret x, s') ∧ HeldIs T_string s' x (((varsCases suf).foldl addS l).map .str) h' ∧ Moves [ol] h h' s s'
  | [], pre, s, l, h, i, hp, hi, n, hlen, hsz, hc, hf => by
    subst hi
    obtain ⟨x, s', h', e1, h1, m1⟩ := scope_names_j0_spec d hd s l h n (by omega)
    refine ⟨x, s', h', ?_, by simpa [decide_eq_false hk, varsCases] using h1, m1⟩
    rw [scope_names_l0_eq]; simp only [go_sem, end_facts (by simpa using hp), e1]
  | .mk p e :: suf, pre, s, l, h, i, hp, hi, n, hlen, hsz, hc, hf => by
    subst hi
    obtain ⟨f1, f2, f3⟩ := step_facts hy hp (by omega) (Case.cells_len (.mk p e)) (by decide)
    simp only [Case.sizes, Case.size] at hlen hsz
    have hv := varsPat_len p
    have hpl : pre.length < d.case.length := by rw [← hp]; simp
    obtain ⟨x1, s1, e1, a1⟩ := tree_Vars_spec p s (by omega)
    obtain ⟨s2, h2, e2, n2, m2⟩ := scope_names_l1_spec (ol := ol) (varsPat p) x1 a1.list? (by omega) (d.cells.map .val) y (.val (.int .i64 d.case.length)) pre.length (by omega) (varsPat p) [] s1 l h 0 rfl rfl (n.grew a1.grew) (by omega)
    have hfl := foldl_addS_len (varsPat p) l
    obtain ⟨x, s3, h3, e3, n3, m3⟩ := scope_names_l0_spec d hd y hy hk suf (pre ++ [.mk p e]) s2 ((varsPat p).foldl addS l) h2 (pre.length + 1) (by simpa using hp) (by simp) n2 (by omega) (by omega) hc hf
    refine ⟨x, s3, h3, ?_, by simpa only [varsCases, foldl_app] using n3, ((Moves.grew [ol] h a1.grew).trans m2).trans m3⟩
    rw [← e3, ← e2]
    rw [show ((0 : Nat) : Int) = 0 from rfl]
    rw [scope_names_l0_eq]
    simp only [Pat.enc, Pat.cells_eq] at e1
    simp only [go_sem, Nat.reduceAdd, Nat.reduceLeDiff, f1, f2, Case.cells_mk, Pat.cells_eq, e1, a1.list?, List.length_map]
/-- the names that a declaration binds -/
theorem scope_names_spec (d : Dec) (hd : d.size < 2^26) (s : St) : ∃ x s' h', cw (.f F_scope_names) [d.enc] s = some (.ret x, s') ∧ HeldIs T_string s' x ((namesD d).map .str) h' ∧ Grew s s' := by
  have n0 := NamesAt.new s
  have m0 : Moves [] [] [] s (s.addLoc (.var [.val .nils])) := (Moves.refl _ _ s).addLoc _
  have done : ∀ {s' h'}, Moves [s.locs.length] [] h' (s.addLoc (.var [.val .nils])) s' → Grew s s' := fun {s' h'} m => by
    have := (m0.next m (by simp)).shrink (g := []) (by simp)
    exact this.toGrew
  have hsz : d.case.length < 2^26 ∧ d.funs.length < 2^26 ∧ Case.sizes d.case < 2^26 := by
    cases d with
    | mk k a nm p l lb c cb f fb =>
      have h1 := Case.len_sizes c
      have h2 := Fun.len_sizes f
      simp only [Dec.size, Dec.case, Dec.funs] at *
      omega
  rw [scope_names_eq]
  by_cases hk : d.kind = 1
  · have hk2 : d.kind ≠ 2 := by omega
    obtain ⟨x, s', h', e1, h1, m1⟩ := scope_names_l0_spec (ol := s.locs.length) d hd (.val (encS d.cb (d.case.map Case.enc))) (list?_encS _ _) hk2 d.case [] _ [] [] 0 rfl rfl n0 (by simp only [List.length_nil]; omega) hsz.2.2 hsz.1 hsz.2.1
    refine ⟨x, s', h', ?_, by simpa [namesD, namesOf, hk] using h1, done m1⟩
    rw [show ((0 : Nat) : Int) = 0 from rfl] at e1
    rw [← e1]
    simp only [go_sem, Nat.reduceAdd, Dec.enc, Dec.cells_eq, hk, List.map_cons, List.map_nil, List.length_map]
  · obtain ⟨x, s', h', e1, h1, m1⟩ := scope_names_j0_spec (ol := s.locs.length) d hd _ [] [] n0 (by simp only [List.length_nil]; omega)
    refine ⟨x, s', h', ?_, by simpa [namesD, namesOf, hk] using h1, done m1⟩
    rw [← e1]
    simp only [go_sem, Nat.reduceAdd, Dec.enc, Dec.cells_eq, hk, decide_false, List.map_cons, List.map_nil, List.length_map]
end Go.Proofs.YtinphnakebeloaaGreat

namespace Go.Proofs.YtinphnakebeloaaGreat
open Go Go.Am
set_option linter.unusedVariables false
set_option maxRecDepth 4000
section
variable {σ : Type} {I : ScI σ} {wl kl : Nat} {A : List Nat} {cf : FuncId} {cc : List AV} {ff : FuncId} {fc : List AV} {R : Nat → σ → List Nat → St → Prop}
/-- a pattern's walk, with the names that it has had -/
structure PW (R : Nat → σ → List Nat → St → Prop) (kl hl : Nat) (n : Nat) (st : List Str × σ) (bd : List Str) (h : List Nat) (s : St) : Prop where
  w : RW R kl n st.2 bd h s
  kn : KN s hl st.1
  few : st.1.length + n < 2^40
def PatWOK (I : ScI σ) (R : Nat → σ → List Nat → St → Prop) (wl kl : Nat) (A : List Nat) (p : Pat) : Prop := ∀ hl n st bd h s, hl ∉ A → hl ≠ kl → PW R kl hl (n + p.size) st bd h s →
  ∃ s' h', cw (.f F_scope_walk_pat) [.vp wl 0, p.enc, .mp hl] s = some (.ret (.val (.tup [])), s') ∧ PW R kl hl n (scPat I p st) bd h' s' ∧ Moves (hl :: A) h h' s s'
theorem scope_pat_loop (H : ScOK I wl kl A cf cc ff fc R) {hl : Nat} (hA : hl ∉ A) (hk : hl ≠ kl) (l : List Pat) (y : Slot) (hy : y.list? = some (l.map Pat.enc)) (hlen : l.length < 2^40) (hs : Pat.sizes l < 2^40) : ∀ (suf pre : List Pat) (n : Nat) (st : List Str × σ) (bd : List Str) (h : List Nat) (s : St) (i : Nat), pre ++ suf = l → i = pre.length → (∀ p ∈ suf, PatWOK I R wl kl A p) → PW R kl hl (n + Pat.sizes suf) st bd h s →
    ∃ s' h', scope_walk_pat_l0 (.val (.vp wl 0)) (.val (.mp hl)) y (.val (.int .i64 l.length)) (.val (.int .i64 i)) s = some (.ret (.val (.tup [])), s') ∧ PW R kl hl n (scPats I suf st) bd h' s' ∧ Moves (hl :: A) h h' s s'
  | [], pre, n, st, bd, h, s, i, hp, hi, hP, w => by
    subst hi
    rw [scope_walk_pat_l0_eq]; simp only [go_sem, end_facts (by simpa using hp)]
    exact ⟨s, h, rfl, by simpa [Pat.sizes, scPats] using w, .refl _ _ _⟩
  | p :: suf, pre, n, st, bd, h, s, i, hp, hi, hP, w => by
    subst hi
    obtain ⟨f1, f2, f3⟩ := step_facts hy hp (by omega) (Pat.cells_len p) (by decide)
    simp only [Pat.sizes] at w
    obtain ⟨s1, h1, e1, w1, m1⟩ := hP p List.mem_cons_self hl (n + Pat.sizes suf) st bd h s hA hk ⟨w.w.le H (by omega), w.kn, by have := w.few; omega⟩
    obtain ⟨s2, h2, e2, w2, m2⟩ := scope_pat_loop H hA hk l y hy hlen hs suf (pre ++ [p]) n (scPat I p st) bd h1 s1 (pre.length + 1) (by simpa using hp) (by simp) (fun q hq => hP q (List.mem_cons_of_mem _ hq)) w1
    refine ⟨s2, h2, ?_, by simpa only [scPats] using w2, m1.trans m2⟩
    rw [scope_walk_pat_l0_eq, ← e2]
    simp only [Pat.enc, Pat.cells_eq] at e1
    simp only [go_sem, Nat.reduceAdd, Nat.reduceLeDiff, f1, f2, f3, Pat.cells_eq, e1]
theorem scope_pat_j1 (H : ScOK I wl kl A cf cc ff fc R) {hl : Nat} (hA : hl ∉ A) (hk : hl ≠ kl) (p : Pat) (hP : ∀ q ∈ p.kids, PatWOK I R wl kl A q) (n : Nat) (st : List Str × σ) (bd : List Str) (h : List Nat) (s : St) (w : PW R kl hl (n + Pat.sizes p.kids) st bd h s) :
    ∃ s' h', scope_walk_pat_j1 (.val (.vp wl 0)) (.val (.mp hl)) (p.cells.map .val) s = some (.ret (.val (.tup [])), s') ∧ PW R kl hl n (scPats I p.kids st) bd h' s' ∧ Moves (hl :: A) h h' s s' := by
  have := Pat.len_sizes p.kids
  have hf := w.few
  obtain ⟨s1, h1, e1, w1, m1⟩ := scope_pat_loop H hA hk p.kids (.val (encS p.kb (p.kids.map Pat.enc))) (list?_encS _ _) (by omega) (by omega) p.kids [] n st bd h s 0 rfl rfl hP w
  refine ⟨s1, h1, ?_, w1, m1⟩
  rw [show ((0 : Nat) : Int) = 0 from rfl] at e1
  rw [scope_walk_pat_j1_eq, ← e1]
  simp only [go_sem, Nat.reduceAdd, Nat.reduceLeDiff, Pat.cells_eq, List.map_cons, List.map_nil, List.length_map]
theorem PW.had (H : ScOK I wl kl A cf cc ff fc R) {hl : Nat} (hA : hl ∉ A) (hk : hl ≠ kl) {n : Nat} {st : List Str × σ} {bd : List Str} {h : List Nat} {s : St} (w : PW R kl hl (n + 1) st bd h s) (nm : Str) :
    ∃ s1, updateS (C.ti T_string) (C.ti T_int) s (.val (.mp hl)) (.val (.str nm)) (.val (.int .i64 (IntKind.i64.wrap ((st.1.count nm : Nat) + 1)))) = some (.no, s1) ∧ lookupS (C.ti T_string) (C.ti T_int) s1 (.val (.mp hl)) (.val (.str nm)) false = some (.val (.int .i64 (st.1.count nm + 1 : Nat))) ∧ RW R kl (n + 1) st.2 bd h s1 ∧ KN s1 hl (st.1 ++ [nm]) ∧ Moves (hl :: A) h h s s1 := by
  have hf := w.few
  obtain ⟨s1, e1, k1, m1, t1, -⟩ := w.kn.inc nm (by omega)
  refine ⟨s1, e1, ?_, w.w.other H (m1 h) (fun k _ => by rw [t1]) (by simpa using ⟨hA, hk⟩), k1, (m1 h).wider (by simp)⟩
  rw [k1.get nm]; simp
theorem count_pos {nm : Str} {l : List Str} : decide (((l.count nm + 1 : Nat) : Int) > 1) = decide (nm ∈ l) := by
  rw [decide_eq_decide]
  constructor
  · intro h; exact List.count_pos_iff.1 (by omega)
  · intro h; have := List.count_pos_iff.2 h; omega
theorem scope_pat_j0 (H : ScOK I wl kl A cf cc ff fc R) {hl : Nat} (hA : hl ∉ A) (hk : hl ≠ kl) (p : Pat) (hP : ∀ q ∈ p.kids, PatWOK I R wl kl A q) (n : Nat) (st : List Str × σ) (bd : List Str) (h : List Nat) (s : St) (w : PW R kl hl (n + p.size) st bd h s) (x : Bool) (hx : x = (decide (p.kind = 2) || decide (p.kind = 6))) :
    ∃ s' h', scope_walk_pat_j0 (.val (.vp wl 0)) (.val (.mp hl)) (p.cells.map .val) (.val (.int .i64 p.kind)) (.val (.bool x)) s = some (.ret (.val (.tup [])), s') ∧ PW R kl hl n (scPat I p st) bd h' s' ∧ Moves (hl :: A) h h' s s' := by
  cases p with
  | mk k a nm num l nl =>
  simp only [Pat.size, Pat.kind] at w hx
  have hf := w.few
  rw [scope_walk_pat_j0_eq]
  have hsc : scPat I (.mk k a nm num l nl) st = scPats I l (bif x then (st.1 ++ [nm], if nm ∈ st.1 then I.fail 9 a nm st.2 else st.2) else bif decide (k = 4) then (st.1, I.con nm a l.length st.2) else st) := by rw [hx]; rfl
  rw [hsc]
  clear hsc hx
  cases x with
  | true =>
    simp only [cond_true]
    obtain ⟨s1, e1, e2, w1, k1, m1⟩ := PW.had (n := n + Pat.sizes l) H hA hk ⟨w.w.le H (by omega), w.kn, by omega⟩ nm
    have g2 := w.kn.get nm
    by_cases hm : nm ∈ st.1
    · obtain ⟨s2, h2, e3, r3, m3⟩ := H.fail 9 nm a w1.r
      have w3 := w1.of H r3 (by omega) m3
      obtain ⟨s4, h4, e4, w4, m4⟩ := scope_pat_j1 H hA hk (.mk k a nm num l nl) hP n (st.1 ++ [nm], I.fail 9 a nm st.2) bd h2 s2 ⟨w3, k1.moves m3 hA, by simp only [List.length_append, List.length_cons, List.length_nil]; simp only [Pat.kids]; omega⟩
      refine ⟨s4, h4, ?_, by simpa only [hm, if_true, Pat.kids] using w4, (m1.trans (m3.wider (by simp +contextual))).trans m4⟩
      rw [← e4]
      simp only [go_sem, Nat.reduceAdd, Nat.reduceLeDiff, Pat.cells_mk, List.map_cons, List.map_nil, g2, e1, e2, count_pos, hm, decide_true, e3]
    · obtain ⟨s4, h4, e4, w4, m4⟩ := scope_pat_j1 H hA hk (.mk k a nm num l nl) hP n (st.1 ++ [nm], st.2) bd h s1 ⟨w1.le H (by simp only [Pat.kids]; omega), k1, by simp only [List.length_append, List.length_cons, List.length_nil]; simp only [Pat.kids]; omega⟩
      refine ⟨s4, h4, ?_, by simpa only [hm, if_false, Pat.kids] using w4, m1.trans m4⟩
      rw [← e4]
      simp only [go_sem, Nat.reduceAdd, Nat.reduceLeDiff, Pat.cells_mk, List.map_cons, List.map_nil, g2, e1, e2, count_pos, hm, decide_false]
  | false =>
    simp only [cond_false]
    by_cases hk4 : k = 4
    · obtain ⟨s2, h2, e3, r3, m3⟩ := H.con (n := n + Pat.sizes l) nm a (l.length : Int) (H.le w.w.r (by omega))
      have w3 := w.w.of H r3 (by omega) m3
      obtain ⟨s4, h4, e4, w4, m4⟩ := scope_pat_j1 H hA hk (.mk k a nm num l nl) hP n (st.1, I.con nm a l.length st.2) bd h2 s2 ⟨w3, w.kn.moves m3 hA, by simp only [Pat.kids]; omega⟩
      refine ⟨s4, h4, ?_, by simpa only [hk4, decide_true, cond_true, Pat.kids] using w4, (m3.wider (by simp +contextual)).trans m4⟩
      rw [← e4]
      have g3 := w.w.conF H
      simp only [go_sem, Nat.reduceAdd, Nat.reduceLeDiff, Pat.cells_mk, Pat.kind, List.map_cons, List.map_nil, hk4, g3, e3, List.length_map, List.cons_append, List.nil_append]
    · obtain ⟨s4, h4, e4, w4, m4⟩ := scope_pat_j1 H hA hk (.mk k a nm num l nl) hP n st bd h s ⟨w.w.le H (by simp only [Pat.kids]; omega), w.kn, by simp only [Pat.kids]; omega⟩
      refine ⟨s4, h4, ?_, by simpa only [decide_eq_false hk4, cond_false, Pat.kids] using w4, m4⟩
      rw [← e4]
      simp only [go_sem, Nat.reduceAdd, Nat.reduceLeDiff, Pat.cells_mk, Pat.kind, List.map_cons, List.map_nil, decide_eq_false hk4]
theorem scope_pat_spec (H : ScOK I wl kl A cf cc ff fc R) : ∀ (m : Nat) (p : Pat), p.size ≤ m → PatWOK I R wl kl A p
  | 0, .mk _ _ _ _ _ _, hm => by simp only [Pat.size] at hm; omega
  | m + 1, .mk k a nm num l nl, hm => fun hl n st bd h s hA hk w => by
    simp only [Pat.size] at hm
    have e1 := fun x hx => scope_pat_j0 H hA hk (.mk k a nm num l nl) (fun q hq => by
      have := Pat.mem_sizes hq
      simp only [Pat.kids] at this
      exact scope_pat_spec H m q (by omega)) n st bd h s w x hx
    rw [scope_walk_pat_eq]
    simp only [Pat.cells_mk, List.map_cons, List.map_nil, Pat.kind] at e1
    by_cases h2 : k = 2
    · obtain ⟨s', h', e2, w2, m2⟩ := e1 true (by simp [h2])
      refine ⟨s', h', ?_, w2, m2⟩
      rw [← e2]
      simp only [go_sem, Int.reduceEq, Nat.reduceAdd, Pat.enc, h2, decide_true]
    · obtain ⟨s', h', e2, w2, m2⟩ := e1 (decide (k = 6)) (show _ = (decide (k = 2) || decide (k = 6)) by rw [decide_eq_false h2, Bool.false_or])
      refine ⟨s', h', ?_, w2, m2⟩
      rw [← e2]
      simp only [go_sem, Nat.reduceAdd, Pat.enc, decide_eq_false h2]
end
end Go.Proofs.YtinphnakebeloaaGreat

namespace Go.Proofs.YtinphnakebeloaaGreat
open Go Go.Am
set_option linter.unusedVariables false
set_option maxRecDepth 4000
section
variable {σ : Type} {I : ScI σ} {wl kl : Nat} {A : List Nat} {cf : FuncId} {cc : List AV} {ff : FuncId} {fc : List AV} {R : Nat → σ → List Nat → St → Prop}
def ExpWOK (I : ScI σ) (R : Nat → σ → List Nat → St → Prop) (wl kl : Nat) (A : List Nat) (e : Exp) : Prop := ∀ n st bd h s, RW R kl (n + 2 * e.size) st bd h s →
  ∃ s' h', cw (.f F_scope_walk_exp) [.vp wl 0, e.enc] s = some (.ret (.val (.tup [])), s') ∧ RW R kl n (scExp I e bd st) bd h' s' ∧ Moves (kl :: A) h h' s s'
def CaseWOK (I : ScI σ) (R : Nat → σ → List Nat → St → Prop) (wl kl : Nat) (A : List Nat) (c : Case) : Prop := ∀ n st bd h s, RW R kl (n + 2 * c.size) st bd h s →
  ∃ s' h', cw (.f F_scope_walk_kase) [.vp wl 0, c.enc] s = some (.ret (.val (.tup [])), s') ∧ RW R kl n (scCase I c bd st) bd h' s' ∧ Moves (kl :: A) h h' s s'
/-- a declaration: it answers what lets its names go -/
def DecWOK (I : ScI σ) (R : Nat → σ → List Nat → St → Prop) (wl kl : Nat) (A : List Nat) (d : Dec) : Prop := ∀ n st bd h s, RW R kl (n + 2 * d.size) st bd h s →
  ∃ s' h' f c l, cw (.f F_scope_walk_dec) [.vp wl 0, d.enc] s = some (.ret (.val (.fn f c)), s') ∧ RW R kl n (scDec I d bd st).2 (scDec I d bd st).1 h' s' ∧ Moves (kl :: A) h h' s s' ∧ (scDec I d bd st).1 = l ++ bd ∧ BackOK R kl f c l
/-- a pattern, from nothing -/
theorem scope_pat_new (H : ScOK I wl kl A cf cc ff fc R) (p : Pat) {n : Nat} {st : σ} {bd : List Str} {h : List Nat} {s : St} (w : RW R kl (n + p.size) st bd h s) :
    ∃ s' h', cw (.f F_scope_walk_pat) [.vp wl 0, p.enc, .mp s.locs.length] (s.addLoc (.map [] 0)) = some (.ret (.val (.tup [])), s') ∧ RW R kl n (scPat I p ([], st)).2 bd h' s' ∧ Moves (kl :: A) h h' s s' := by
  have g : Grew s (s.addLoc (.map [] 0)) := (Grew.refl s).addLoc _
  have hf := w.few
  obtain ⟨s1, h1, e1, w1, m1⟩ := scope_pat_spec H _ p (Nat.le_refl _) s.locs.length n ([], st) bd h (s.addLoc (.map [] 0)) (fun hm => by have := H.low w.r _ hm; omega) (fun e => by have := w.kn.lt; omega) ⟨w.grew H g, KN.new s, by simp only [List.length_nil]; omega⟩
  refine ⟨s1, h1, e1, w1.w, (Moves.grew (kl :: A) h g).next m1 fun i hi => ?_⟩
  rcases List.mem_cons.1 hi with rfl | hi
  · exact .inr (Nat.le_refl _)
  · exact .inl (List.mem_cons_of_mem _ hi)
theorem scope_kase_spec (H : ScOK I wl kl A cf cc ff fc R) (p : Pat) (e : Exp) (he : ExpWOK I R wl kl A e) (hsz : p.size < 2^26) : CaseWOK I R wl kl A (.mk p e) := by
  intro n st bd h s w
  simp only [Case.size] at w
  have hf := w.few
  have hv := varsPat_len p
  obtain ⟨s1, h1, e1, w1, m1⟩ := scope_pat_new (n := n + 2 * e.size + (varsPat p).length) H p (w.le H (by omega)) (st := st)
  obtain ⟨x2, s2, e2, a2⟩ := tree_Vars_spec p s1 hsz
  obtain ⟨nl, hav⟩ := a2.av
  have hl2 : (Slot.val (encS nl ((varsPat p).map .str))).list? = some ((varsPat p).map .str) := list?_encS _ _
  obtain ⟨s3, e3, w3, m3⟩ := scope_bind_spec H (varsPat p) _ hl2 (w1.grew H a2.grew)
  obtain ⟨s4, h4, e4, w4, m4⟩ := he n _ _ _ _ w3
  obtain ⟨s5, e5, w5, m5⟩ := scope_back_spec H (varsPat p) _ hl2 (by omega) w4 (List.Perm.refl _)
  refine ⟨s5, h4, ?_, w5, (((m1.trans (Moves.grew _ _ a2.grew)).trans ((m3 _).wider (by simp))).trans m4).trans ((m5 _).wider (by simp))⟩
  rw [scope_walk_kase_eq]
  simp only [Pat.enc, Pat.cells_eq] at e1 e2
  simp only [Exp.enc, Exp.cells_eq] at e4
  simp only [go_sem, Nat.reduceAdd, Nat.reduceLeDiff, Case.enc, Case.cells_mk, Pat.cells_eq, Exp.cells_eq, e1, e2, avs_cons hav, e3, e4, e5]
theorem scope_exps_loop (H : ScOK I wl kl A cf cc ff fc R) (x3 : List Slot) (x4 : Slot) (l : List Exp) (y : Slot) (hy : y.list? = some (l.map Exp.enc)) (hlen : l.length < 2^40) : ∀ (suf pre : List Exp) (n : Nat) (st : σ) (bd : List Str) (h : List Nat) (s : St) (i : Nat), pre ++ suf = l → i = pre.length → (∀ p ∈ suf, ExpWOK I R wl kl A p) → RW R kl (n + 2 * Exp.sizes suf) st bd h s →
    ∃ s' h', scope_walk_exp_l1 (.val (.vp wl 0)) x3 x4 y (.val (.int .i64 l.length)) (.val (.int .i64 i)) s = scope_walk_exp_l1 (.val (.vp wl 0)) x3 x4 y (.val (.int .i64 l.length)) (.val (.int .i64 l.length)) s' ∧ RW R kl n (scExps I suf bd st) bd h' s' ∧ Moves (kl :: A) h h' s s'
  | [], pre, n, st, bd, h, s, i, hp, hi, hP, w => by
    subst hi
    have hpl : pre.length = l.length := by rw [← hp]; simp
    exact ⟨s, h, by rw [hpl], by simpa [Exp.sizes, scExps] using w, .refl _ _ _⟩
  | p :: suf, pre, n, st, bd, h, s, i, hp, hi, hP, w => by
    subst hi
    obtain ⟨f1, f2, f3⟩ := step_facts hy hp (by omega) (Exp.cells_len p) (by decide)
    simp only [Exp.sizes] at w
    obtain ⟨s1, h1, e1, w1, m1⟩ := hP p List.mem_cons_self (n + 2 * Exp.sizes suf) st bd h s (w.le H (by omega))
    obtain ⟨s2, h2, e2, w2, m2⟩ := scope_exps_loop H x3 x4 l y hy hlen suf (pre ++ [p]) n (scExp I p bd st) bd h1 s1 (pre.length + 1) (by simpa using hp) (by simp) (fun q hq => hP q (List.mem_cons_of_mem _ hq)) w1
    refine ⟨s2, h2, ?_, by simpa only [scExps] using w2, m1.trans m2⟩
    rw [← e2, scope_walk_exp_l1_eq]
    simp only [Exp.enc, Exp.cells_eq] at e1
    simp only [go_sem, Nat.reduceAdd, Nat.reduceLeDiff, f1, f2, f3, Exp.cells_eq, e1]
theorem scope_cases_loop (H : ScOK I wl kl A cf cc ff fc R) (x4 : Slot) (l : List Case) (y : Slot) (hy : y.list? = some (l.map Case.enc)) (hlen : l.length < 2^40) : ∀ (suf pre : List Case) (n : Nat) (st : σ) (bd : List Str) (h : List Nat) (s : St) (i : Nat), pre ++ suf = l → i = pre.length → (∀ p ∈ suf, CaseWOK I R wl kl A p) → RW R kl (n + 2 * Case.sizes suf) st bd h s →
    ∃ s' h', scope_walk_exp_l2 (.val (.vp wl 0)) x4 y (.val (.int .i64 l.length)) (.val (.int .i64 i)) s = scope_walk_exp_l2 (.val (.vp wl 0)) x4 y (.val (.int .i64 l.length)) (.val (.int .i64 l.length)) s' ∧ RW R kl n (scCases I suf bd st) bd h' s' ∧ Moves (kl :: A) h h' s s'
  | [], pre, n, st, bd, h, s, i, hp, hi, hP, w => by
    subst hi
    have hpl : pre.length = l.length := by rw [← hp]; simp
    exact ⟨s, h, by rw [hpl], by simpa [Case.sizes, scCases] using w, .refl _ _ _⟩
  | .mk p e :: suf, pre, n, st, bd, h, s, i, hp, hi, hP, w => by
    subst hi
    obtain ⟨f1, f2, f3⟩ := step_facts hy hp (by omega) (Case.cells_len (.mk p e)) (by decide)
    simp only [Case.sizes] at w
    obtain ⟨s1, h1, e1, w1, m1⟩ := hP (.mk p e) List.mem_cons_self (n + 2 * Case.sizes suf) st bd h s (w.le H (by omega))
    obtain ⟨s2, h2, e2, w2, m2⟩ := scope_cases_loop H x4 l y hy hlen suf (pre ++ [.mk p e]) n (scCase I (.mk p e) bd st) bd h1 s1 (pre.length + 1) (by simpa using hp) (by simp) (fun q hq => hP q (List.mem_cons_of_mem _ hq)) w1
    refine ⟨s2, h2, ?_, by simpa only [scCases] using w2, m1.trans m2⟩
    rw [← e2, scope_walk_exp_l2_eq]
    simp only [Case.enc, Case.cells_mk, Pat.cells_eq, Exp.cells_eq, List.cons_append, List.nil_append] at e1
    simp only [go_sem, Nat.reduceAdd, Nat.reduceLeDiff, f1, f2, f3, Case.cells_mk, Pat.cells_eq, Exp.cells_eq, e1]
/-- what lets names go, and which -/
structure Bk where
  f : FuncId
  c : List AV
  l : List Str
abbrev Bk.enc (b : Bk) : AV := .fn b.f b.c
def Bk.OK (R : Nat → σ → List Nat → St → Prop) (kl : Nat) (b : Bk) : Prop := BackOK R kl b.f b.c b.l
theorem scope_backs_loop (B : List Bk) (y : Slot) (hy : y.list? = some (B.map Bk.enc)) (hlen : B.length < 2^40) : ∀ (suf pre : List Bk) (n : Nat) (st : σ) (bd bd' : List Str) (h : List Nat) (s : St) (i : Nat), pre ++ suf = B → i = pre.length → (∀ b ∈ suf, b.OK R kl) → RW R kl n st bd' h s → bd'.Perm (suf.flatMap Bk.l ++ bd) →
    ∃ s', scope_walk_exp_l3 y (.val (.int .i64 B.length)) (.val (.int .i64 i)) s = some (.ret (.val (.tup [])), s') ∧ RW R kl n st bd h s' ∧ (∀ hs, Moves [kl] hs hs s s')
  | [], pre, n, st, bd, bd', h, s, i, hp, hi, hB, w, p => by
    subst hi
    rw [scope_walk_exp_l3_eq]; simp only [go_sem, end_facts (by simpa using hp)]
    exact ⟨s, rfl, ⟨w.r, w.kn.perm p, by have := w.few; rw [p.length_eq] at this; simpa using this⟩, fun hs => .refl _ _ _⟩
  | b :: suf, pre, n, st, bd, bd', h, s, i, hp, hi, hB, w, p => by
    subst hi
    obtain ⟨f1, f2, f3⟩ := step_facts hy hp (by omega) (sz := 1) rfl (by decide)
    obtain ⟨s1, e1, w1, m1⟩ := hB b List.mem_cons_self w (bd := suf.flatMap Bk.l ++ bd) (by simpa using p)
    obtain ⟨s2, e2, w2, m2⟩ := scope_backs_loop B y hy hlen suf (pre ++ [b]) n st bd _ h s1 (pre.length + 1) (by simpa using hp) (by simp) (fun q hq => hB q (List.mem_cons_of_mem _ hq)) w1 (List.Perm.refl _)
    refine ⟨s2, ?_, w2, fun hs => (m1 hs).trans (m2 hs)⟩
    rw [scope_walk_exp_l3_eq, ← e2]
    simp only [go_sem, Nat.reduceAdd, Nat.reduceLeDiff, f1, f2, f3, e1, List.nil_append]
theorem scope_decs_loop (H : ScOK I wl kl A cf cc ff fc R) (x3 : List Slot) (l : List Dec) (y : Slot) (hy : y.list? = some (l.map Dec.enc)) (hlen : l.length < 2^26) (s0 : St) (h0 : List Nat) (bd0 : List Str) : ∀ (suf pre : List Dec) (B : List Bk) (x : Slot) (n : Nat) (st : σ) (bd : List Str) (h : List Nat) (s : St) (i : Nat), pre ++ suf = l → i = pre.length → B.length = pre.length → (∀ p ∈ suf, DecWOK I R wl kl A p) → RW R kl (n + 2 * Dec.sizes suf) st bd h s →
    AccH T_x_func s0.toks.length h s x (B.map Bk.enc) → Moves (kl :: A) h0 h s0 s → (∀ b ∈ B, b.OK R kl) → bd.Perm (B.flatMap Bk.l ++ bd0) →
    ∃ s' h' x' , ∃ B' : List Bk, scope_walk_exp_l0 (.val (.vp wl 0)) x3 x y (.val (.int .i64 l.length)) (.val (.int .i64 i)) s = scope_walk_exp_l0 (.val (.vp wl 0)) x3 x' y (.val (.int .i64 l.length)) (.val (.int .i64 l.length)) s' ∧ RW R kl n (scDecs I suf bd st).2 (scDecs I suf bd st).1 h' s' ∧ x'.list? = some (B'.map Bk.enc) ∧ B'.length = l.length ∧ Moves (kl :: A) h0 h' s0 s' ∧ (∀ b ∈ B', b.OK R kl) ∧ (scDecs I suf bd st).1.Perm (B'.flatMap Bk.l ++ bd0)
  | [], pre, B, x, n, st, bd, h, s, i, hp, hi, hb, hP, w, a, m, hB, p => by
    subst hi
    have hpl : pre.length = l.length := by rw [← hp]; simp
    exact ⟨s, h, x, B, by rw [hpl], by simpa [Dec.sizes, scDecs] using w, a.list?, by omega, m, hB, by simpa only [scDecs] using p⟩
  | d :: suf, pre, B, x, n, st, bd, h, s, i, hp, hi, hb, hP, w, a, m, hB, p => by
    subst hi
    obtain ⟨f1, f2, f3⟩ := step_facts hy hp (by omega) (Dec.cells_len d) (by decide)
    have hlt : pre.length < l.length := by rw [← hp]; simp
    simp only [Dec.sizes] at w
    obtain ⟨s1, h1, f, c, ns, e1, w1, m1, q1, b1⟩ := hP d List.mem_cons_self (n + 2 * Dec.sizes suf) st bd h s (w.le H (by omega))
    have M1 := m.trans m1
    obtain ⟨x2, s2, e2, a2, M2, l2, t2, t3⟩ := AccH.appendF (f := Bk.enc) (B := [⟨f, c, ns⟩]) (t := C.ti T_x_func) (y := .full [.fn f c]) (a.move m1) M1 (H.held w1.r) rfl (fun a => by rw [T_x_func_size]; rfl) (by rw [T_x_func_size]; decide) (by simp only [List.length_singleton]; omega) (by rw [T_x_func_bytes]; decide)
    have w2 : RW R kl (n + 2 * Dec.sizes suf) (scDec I d bd st).2 (scDec I d bd st).1 h1 s2 := ⟨H.stab w1.r (fun i _ => by rw [l2]) t2, w1.kn.at (by rw [l2]), w1.few⟩
    obtain ⟨s3, h3, x3', B3, e3, w3, a3, k3, M3, O3, P3⟩ := scope_decs_loop H x3 l y hy hlen s0 h0 bd0 suf (pre ++ [d]) (B ++ [⟨f, c, ns⟩]) x2 n (scDec I d bd st).2 (scDec I d bd st).1 h1 s2 (pre.length + 1) (by simpa using hp) (by simp) (by simp [hb]) (fun q hq => hP q (List.mem_cons_of_mem _ hq)) w2 a2 M2
      (fun b hb' => by
        rcases List.mem_append.1 hb' with h | h
        · exact hB b h
        · simp only [List.mem_singleton] at h; subst h; exact b1)
      (by
        rw [q1, List.flatMap_append]
        simp only [List.flatMap_cons, List.flatMap_nil, List.append_nil]
        exact ((List.Perm.append_left ns p).trans (by rw [← List.append_assoc]; exact List.Perm.append_right bd0 List.perm_append_comm)))
    refine ⟨s3, h3, x3', B3, ?_, by simpa only [scDecs] using w3, a3, k3, M3, O3, by simpa only [scDecs] using P3⟩
    rw [← e3, scope_walk_exp_l0_eq]
    simp only [Dec.enc, Dec.cells_eq] at e1
    simp only [go_sem, Nat.reduceAdd, Nat.reduceLeDiff, f1, f2, f3, Dec.cells_eq, e1, e2]
theorem scope_exp_j0 (H : ScOK I wl kl A cf cc ff fc R) (e : Exp) (hsz : e.size < 2^26) (hD : ∀ d ∈ e.decs, DecWOK I R wl kl A d) (hK : ∀ k ∈ e.kids, ExpWOK I R wl kl A k) (hC : ∀ c ∈ e.cases, CaseWOK I R wl kl A c) (n : Nat) (st : σ) (bd : List Str) (h : List Nat) (s : St) (w : RW R kl (n + 2 * (Exp.sizes e.kids + Case.sizes e.cases + Dec.sizes e.decs)) st bd h s) :
    ∃ s' h', scope_walk_exp_j0 (.val (.vp wl 0)) (e.cells.map .val) s = some (.ret (.val (.tup [])), s') ∧ RW R kl n (scCases I e.cases (scDecs I e.decs bd st).1 (scExps I e.kids (scDecs I e.decs bd st).1 (scDecs I e.decs bd st).2)) bd h' s' ∧ Moves (kl :: A) h h' s s' := by
  have hlen : e.decs.length < 2^26 ∧ e.kids.length < 2^26 ∧ e.cases.length < 2^26 := by
    cases e with
    | mk k a nm num l lb c cb d db =>
      have h1 := Exp.len_sizes l
      have h2 := Case.len_sizes c
      have h3 := Dec.len_sizes d
      simp only [Exp.size, Exp.decs, Exp.kids, Exp.cases] at *
      omega
  obtain ⟨s1, h1, x1, B, e1, w1, a1, k1, M1, O1, P1⟩ := scope_decs_loop H (e.cells.map .val) e.decs (.val (encS e.db (e.decs.map Dec.enc))) (list?_encS _ _) hlen.1 s h bd e.decs [] [] (.val .nils) (n + 2 * (Exp.sizes e.kids + Case.sizes e.cases)) st bd h s 0 rfl rfl rfl hD (w.le H (by omega)) (AccH.nil _ _ _ _) (.refl _ _ _) (by simp) (by simp)
  obtain ⟨s2, h2, e2, w2, m2⟩ := scope_exps_loop H (e.cells.map .val) x1 e.kids (.val (encS e.kb (e.kids.map Exp.enc))) (list?_encS _ _) (by omega) e.kids [] (n + 2 * Case.sizes e.cases) _ _ h1 s1 0 rfl rfl hK (w1.le H (by omega))
  obtain ⟨s3, h3, e3, w3, m3⟩ := scope_cases_loop H x1 e.cases (.val (encS e.cb (e.cases.map Case.enc))) (list?_encS _ _) (by omega) e.cases [] n _ _ h2 s2 0 rfl rfl hC w2
  obtain ⟨s4, e4, w4, m4⟩ := scope_backs_loop B x1 a1 (by omega) B [] n _ bd _ h3 s3 0 rfl rfl O1 w3 P1
  refine ⟨s4, h3, ?_, w4, ((M1.trans m2).trans m3).trans ((m4 _).wider (by simp))⟩
  rw [show ((0 : Nat) : Int) = 0 from rfl] at e1 e2 e3 e4
  have d1 : decide ((e.decs.length : Int) < (e.decs.length : Int)) = false := by simp
  have d2 : decide ((e.kids.length : Int) < (e.kids.length : Int)) = false := by simp
  have d3 : decide ((e.cases.length : Int) < (e.cases.length : Int)) = false := by simp
  rw [k1] at e4
  have E0 : scope_walk_exp_j0 (.val (.vp wl 0)) (e.cells.map .val) s = scope_walk_exp_l0 (.val (.vp wl 0)) (e.cells.map .val) (.val .nils) (.val (encS e.db (e.decs.map Dec.enc))) (.val (.int .i64 e.decs.length)) (.val (.int .i64 0)) s := by
    rw [scope_walk_exp_j0_eq]; simp only [go_sem, Nat.reduceAdd, Nat.reduceLeDiff, Exp.cells_eq, List.map_cons, List.map_nil, List.length_map]
  have E1 : scope_walk_exp_l0 (.val (.vp wl 0)) (e.cells.map .val) x1 (.val (encS e.db (e.decs.map Dec.enc))) (.val (.int .i64 e.decs.length)) (.val (.int .i64 e.decs.length)) s1 = scope_walk_exp_l1 (.val (.vp wl 0)) (e.cells.map .val) x1 (.val (encS e.kb (e.kids.map Exp.enc))) (.val (.int .i64 e.kids.length)) (.val (.int .i64 0)) s1 := by
    rw [scope_walk_exp_l0_eq]; simp only [go_sem, d1, Exp.cells_eq, List.map_cons, List.map_nil, List.length_map]
  have E2 : scope_walk_exp_l1 (.val (.vp wl 0)) (e.cells.map .val) x1 (.val (encS e.kb (e.kids.map Exp.enc))) (.val (.int .i64 e.kids.length)) (.val (.int .i64 e.kids.length)) s2 = scope_walk_exp_l2 (.val (.vp wl 0)) x1 (.val (encS e.cb (e.cases.map Case.enc))) (.val (.int .i64 e.cases.length)) (.val (.int .i64 0)) s2 := by
    rw [scope_walk_exp_l1_eq]; simp only [go_sem, d2, Exp.cells_eq, List.map_cons, List.map_nil, List.length_map]
  have E3 : scope_walk_exp_l2 (.val (.vp wl 0)) x1 (.val (encS e.cb (e.cases.map Case.enc))) (.val (.int .i64 e.cases.length)) (.val (.int .i64 e.cases.length)) s3 = scope_walk_exp_l3 x1 (.val (.int .i64 e.decs.length)) (.val (.int .i64 0)) s3 := by
    rw [scope_walk_exp_l2_eq]; simp only [go_sem, d3, a1, List.length_map, k1]
  rw [E0, e1, E1, e2, E2, e3, E3, e4]
theorem scope_exp_of (H : ScOK I wl kl A cf cc ff fc R) (e : Exp) (hsz : e.size < 2^26) (hD : ∀ d ∈ e.decs, DecWOK I R wl kl A d) (hK : ∀ k ∈ e.kids, ExpWOK I R wl kl A k) (hC : ∀ c ∈ e.cases, CaseWOK I R wl kl A c) : ExpWOK I R wl kl A e := by
  intro n st bd h s w
  cases e with
  | mk k a nm num l lb c cb d db =>
  have j := fun n st h s w => scope_exp_j0 H (.mk k a nm num l lb c cb d db) hsz hD hK hC n st bd h s w
  simp only [Exp.cells_mk, List.map_cons, List.map_nil, Exp.kids, Exp.cases, Exp.decs] at j
  have g1 := w.stopB H
  have g2 := w.known H
  have g3 := w.kn.get nm
  have g4 := w.conF H
  have g5 := w.freeF H
  simp only [Exp.size] at w
  rw [scope_walk_exp_eq]
  simp only [scExp]
  cases hs : I.stop st with
  | true =>
    refine ⟨s, h, ?_, by simpa only [cond_true] using w.le H (by omega), .refl _ _ _⟩
    rw [hs] at g1
    simp only [go_sem, Nat.reduceAdd, Exp.enc, Exp.cells_mk, List.map_cons, List.map_nil, g1]
  | false =>
    rw [hs] at g1
    simp only [cond_false]
    by_cases h2 : k = 2
    · subst h2
      by_cases hm : nm ∈ bd
      · obtain ⟨s1, h1, e1, w1, m1⟩ := j n st h s (w.le H (by omega))
        refine ⟨s1, h1, ?_, by simpa [scVar, hm] using w1, m1⟩
        rw [← e1]
        have hc : decide (((bd.count nm : Nat) : Int) = 0) = false := by have := List.count_pos_iff.2 hm; simp only [decide_eq_false_iff_not]; omega
        simp only [go_sem, Int.reduceEq, Nat.reduceAdd, Exp.enc, Exp.cells_mk, List.map_cons, List.map_nil, g1, g2, g3, decide_true, hc]
      · obtain ⟨s0, h0, e0, r0, m0⟩ := H.free (n := n + 2 * (Exp.sizes l + Case.sizes c + Dec.sizes d)) nm a (H.le w.r (by omega))
        obtain ⟨s1, h1, e1, w1, m1⟩ := j n _ h0 s0 (w.of H r0 (by omega) m0)
        refine ⟨s1, h1, ?_, by simpa [scVar, hm] using w1, (m0.wider (by simp +contextual)).trans m1⟩
        rw [← e1]
        have hc : decide (((bd.count nm : Nat) : Int) = 0) = true := by have := List.count_eq_zero.2 hm; simp only [decide_eq_true_eq]; omega
        simp only [go_sem, Int.reduceEq, Nat.reduceAdd, Exp.enc, Exp.cells_mk, List.map_cons, List.map_nil, g1, g2, g3, g5, decide_true, hc, e0, List.cons_append, List.nil_append]
    · by_cases h3 : k = 3
      · subst h3
        obtain ⟨s0, h0, e0, r0, m0⟩ := H.con (n := n + 2 * (Exp.sizes l + Case.sizes c + Dec.sizes d)) nm a (l.length : Int) (H.le w.r (by omega))
        obtain ⟨s1, h1, e1, w1, m1⟩ := j n _ h0 s0 (w.of H r0 (by omega) m0)
        refine ⟨s1, h1, ?_, by simpa [scVar] using w1, (m0.wider (by simp +contextual)).trans m1⟩
        rw [← e1]
        simp only [go_sem, Int.reduceEq, Nat.reduceAdd, Exp.enc, Exp.cells_mk, List.map_cons, List.map_nil, g1, g4, decide_true, Int.reduceEq, decide_false, e0, List.cons_append, List.nil_append, List.length_map]
      · obtain ⟨s1, h1, e1, w1, m1⟩ := j n st h s (w.le H (by omega))
        refine ⟨s1, h1, ?_, by simpa [scVar, h2, h3] using w1, m1⟩
        rw [← e1]
        simp only [go_sem, Nat.reduceAdd, Exp.enc, Exp.cells_mk, List.map_cons, List.map_nil, g1, decide_eq_false h2, decide_eq_false h3]
end
end Go.Proofs.YtinphnakebeloaaGreat
