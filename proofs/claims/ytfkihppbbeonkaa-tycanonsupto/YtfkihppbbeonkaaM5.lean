/- A part of the proof: RDec, RBase, RBase2, PTy, PSame, STree1, STree2, STree3, STree4, STree5, STree6, STree7, STy1, STy2, SRef1, PTree2, SRef2, SRef5, SRef8, SRefT1, SRefT2, PTy2, LTyRight, PTy3, PTy4, LTyCanons. -/
import Derived.Test.YtfkihppbbeonkaaM4
import Derived.Test.YtfkihppbbeonkaaRows
import Derived.Test.YtfkihppbbeonkaaShelf
import Derived.ChangeSame
import Derived.ReadAgain
import Derived.ChangeOld
import Derived.Deep.DeepHandedRow
import Derived.WalkKit
import Derived.ProofKit
import Derived.OpenShut
import Derived.Lib.IndexMore
set_option linter.unusedVariables false
set_option linter.unusedSimpArgs false
namespace Go.Am
open Go
section
variable {H : Type} {ti : TypeId → TI}
def Fields (ti : TypeId → TI) (n : Nat) : List (Nat × TypeId) → List (DataW H) → List (List AV) → Prop
  | [], [], [] => True
  | f :: fs, d :: ds, l :: ls => conv ti n f.2 d = some l ∧ Fields ti n fs ds ls
  | _, _, _ => False
theorem fields_of (n : Nat) : ∀ (fs : List (Nat × TypeId)) (ds : List (DataW H)) (ls : List (List AV)), fs.length = ds.length → ((fs.zip ds).mapM fun p => conv ti n p.1.2 p.2) = some ls → Fields ti n fs ds ls
  | [], [], ls, _, h => by simp at h; subst h; trivial
  | f :: fs, d :: ds, ls, hl, h => by
    rw [List.zip_cons_cons, List.mapM_cons] at h
    cases h1 : conv ti n f.2 d with
    | none => simp [h1] at h
    | some l =>
      cases h2 : ((fs.zip ds).mapM fun p => conv ti n p.1.2 p.2) with
      | none => simp [h1, h2] at h
      | some ls' =>
        simp [h1, h2] at h
        subst h
        exact ⟨h1, fields_of n fs ds ls' (by simpa using hl) h2⟩
  | [], _ :: _, _, hl, _ => by simp at hl
  | _ :: _, [], _, hl, _ => by simp at hl
theorem conv_struct {n : Nat} {t : TypeId} {d : DataW H} {l : List AV} {fs : List (Nat × TypeId)} (hk : (ti t).k = .struct fs) (h : conv ti (n + 1) t d = some l) : ∃ parts ls, d = .agg parts ∧ Fields ti n fs parts ls ∧ l = ls.flatten := by
  simp only [conv, hk] at h
  split at h <;> first | (cases h; done) | skip
  all_goals try (rename_i hx; cases hx; done)
  rename_i fs' parts hx
  cases hx
  split at h
  · rename_i hl
    obtain ⟨ls, h1, rfl⟩ := Option.map_eq_some_iff.1 h
    exact ⟨parts, ls, rfl, fields_of n _ _ _ hl h1, rfl⟩
  · cases h
theorem conv_int {n : Nat} {t : TypeId} {d : DataW H} {l : List AV} {k : IntKind} (hk : (ti t).k = .int k) (h : conv ti n t d = some l) : ∃ x, d = .lit (.int k x) ∧ l = [.int k x] ∧ (Lit.int k x).wf = true := by
  cases n with
  | zero => simp [conv] at h
  | succ n =>
    simp only [conv, hk] at h
    split at h <;> first | (cases h; done) | skip
    all_goals try (rename_i hx; cases hx; done)
    rename_i k' j x hx
    cases hx
    split at h
    · rename_i hc
      obtain ⟨rfl, hc⟩ := hc
      cases h
      exact ⟨x, rfl, rfl, hc⟩
    · cases h
theorem conv_str {n : Nat} {t : TypeId} {d : DataW H} {l : List AV} (hk : (ti t).k = .str) (h : conv ti n t d = some l) : ∃ s, d = .lit (.string s) ∧ l = [.str s] := by
  cases n with
  | zero => simp [conv] at h
  | succ n =>
    simp only [conv, hk] at h
    split at h <;> first | (cases h; done) | skip
    all_goals try (rename_i hx; cases hx; done)
    rename_i s hx
    split at h
    · cases h
      exact ⟨s, rfl, rfl⟩
    · cases h
theorem conv_slice {n : Nat} {t e : TypeId} {d : DataW H} {l : List AV} (hk : (ti t).k = .slice e) (h : conv ti (n + 1) t d = some l) : (d = .nil ∧ l = [.nils]) ∨ ∃ elems spare xs, d = .slice elems spare ∧ (elems.mapM fun d => (conv ti n e d).bind (ofCells (ti e))) = some xs ∧ l = [.sl xs] := by
  simp only [conv, hk] at h
  split at h <;> first | (cases h; done) | skip
  all_goals try (rename_i hx; cases hx; done)
  · cases h
    exact .inl ⟨rfl, rfl⟩
  · rename_i e' elems spare hx
    cases hx
    split at h
    · obtain ⟨xs, h1, rfl⟩ := Option.map_eq_some_iff.1 h
      exact .inr ⟨elems, spare, xs, rfl, h1, rfl⟩
    · cases h
end
end Go.Am
namespace Go.Proofs.Ytfkihppbbeonkaa
open Go Go.Am
set_option linter.unusedVariables false
set_option maxRecDepth 4000
section
variable {H : Type}
theorem elems_dec {τ : Type} {cells : τ → List AV} {G : Nat → τ → Prop} {GL : Nat → List τ → Prop} {e : TypeId} {n : Nat} (ha : (C.ti e).isAgg = true) (h0 : GL 0 []) (h1 : ∀ m k t L, G m t → GL k L → GL (m + k) (t :: L))
    (he : ∀ (d : DataW H) l, conv C.ti n e d = some l → Rows.uptoBulk d < 2^30 → ∃ t, l = cells t ∧ G (Rows.uptoBulk d) t) : ∀ (ds : List (DataW H)) (xs : List AV), (ds.mapM fun d => (conv C.ti n e d).bind (ofCells (C.ti e))) = some xs → Rows.uptoBulkAll ds < 2^30 → ∃ L, xs = L.map (fun t => .agg (cells t)) ∧ GL (Rows.uptoBulkAll ds) L
  | [], xs, h, _ => by simp at h; subst h; exact ⟨[], rfl, by simpa only [Rows.uptoBulkAll] using h0⟩
  | d :: ds, xs, h, hb => by
    simp only [Rows.uptoBulkAll] at hb ⊢
    rw [List.mapM_cons] at h
    cases h2 : (conv C.ti n e d) with
    | none => simp [h2] at h
    | some l =>
      obtain ⟨t, rfl, ht⟩ := he d l h2 (by omega)
      cases h3 : ofCells (C.ti e) (cells t) with
      | none => simp [h2, h3] at h
      | some v =>
        cases h4 : (ds.mapM fun d => (conv C.ti n e d).bind (ofCells (C.ti e))) with
        | none => simp [h2, h3, h4] at h
        | some ys =>
          simp [h2, h3, h4] at h
          subst h
          obtain ⟨L, rfl, hL⟩ := elems_dec ha h0 h1 he ds ys h4 (by omega)
          have : v = .agg (cells t) := by
            unfold ofCells at h3
            rw [ha, cond_true] at h3
            split at h3 <;> cases h3
            rfl
          subst this
          exact ⟨t :: L, rfl, h1 _ _ _ _ ht hL⟩
theorem slice_dec {τ : Type} {cells : τ → List AV} {G : Nat → τ → Prop} {GL : Nat → List τ → Prop} {t e : TypeId} {n : Nat} (hk : (C.ti t).k = .slice e) (ha : (C.ti e).isAgg = true) (h0 : GL 0 []) (h1 : ∀ m k t L, G m t → GL k L → GL (m + k) (t :: L))
    (he : ∀ (d : DataW H) l, conv C.ti n e d = some l → Rows.uptoBulk d < 2^30 → ∃ t, l = cells t ∧ G (Rows.uptoBulk d) t) (d : DataW H) (l : List AV) (h : conv C.ti (n + 1) t d = some l) (hb : Rows.uptoBulk d < 2^30) : ∃ L b k, l = [encS b (L.map fun t => .agg (cells t))] ∧ GL k L ∧ k + 1 ≤ Rows.uptoBulk d := by
  rcases conv_slice hk h with ⟨rfl, rfl⟩ | ⟨elems, spare, xs, rfl, h2, rfl⟩
  · exact ⟨[], true, 0, rfl, h0, by simp only [Rows.uptoBulk]; omega⟩
  · simp only [Rows.uptoBulk] at hb ⊢
    obtain ⟨L, rfl, hL⟩ := elems_dec ha h0 h1 he elems xs h2 (by omega)
    exact ⟨L, false, _, rfl, hL, by omega⟩
def GTy (b : Nat) (t : Ty) : Prop := t.size ≤ b ∧ ∀ a, ∀ n ∈ nodesTy a t, n.ok
def GTys (b : Nat) (l : List Ty) : Prop := Ty.sizes l ≤ b ∧ ∀ a, ∀ n ∈ nodesTys a l, n.ok
theorem GTys.nil : GTys 0 [] := ⟨Nat.le_refl _, by simp [nodesTys]⟩
theorem GTys.cons (m k : Nat) (t : Ty) (L : List Ty) (h : GTy m t) (g : GTys k L) : GTys (m + k) (t :: L) := by
  refine ⟨by have := h.1; have := g.1; simp only [Ty.sizes]; omega, fun a n hn => ?_⟩
  simp only [nodesTys, List.mem_append] at hn
  rcases hn with hn | hn
  · exact h.2 a n hn
  · exact g.2 a n hn
theorem dec_ty : ∀ (n : Nat) (d : DataW H) l, conv C.ti n T_Ty d = some l → Rows.uptoBulk d < 2^30 → ∃ t : Ty, l = t.cells ∧ GTy (Rows.uptoBulk d) t
  | 0, d, l, h, _ => by simp [conv] at h
  | 1, d, l, h, _ => by
    obtain ⟨parts, ls, rfl, hf, rfl⟩ := conv_struct T_Ty_k h
    rcases parts with _ | ⟨d1, _ | ⟨d2, _ | ⟨d3, _ | ⟨d4, _ | _⟩⟩⟩⟩ <;> rcases ls with _ | ⟨l1, _ | ⟨l2, _ | ⟨l3, _ | ⟨l4, _ | _⟩⟩⟩⟩ <;> simp only [Fields, and_false] at hf
    simp [conv] at hf
  | n + 2, d, l, h, hb => by
    obtain ⟨parts, ls, rfl, hf, rfl⟩ := conv_struct T_Ty_k h
    rcases parts with _ | ⟨d1, _ | ⟨d2, _ | ⟨d3, _ | ⟨d4, _ | _⟩⟩⟩⟩ <;> rcases ls with _ | ⟨l1, _ | ⟨l2, _ | ⟨l3, _ | ⟨l4, _ | _⟩⟩⟩⟩ <;> simp only [Fields, and_false] at hf
    obtain ⟨c1, c2, c3, c4, -⟩ := hf
    simp only [Rows.uptoBulk, Rows.uptoBulkAll] at hb ⊢
    obtain ⟨k, rfl, rfl, w1⟩ := conv_int T_TyKind_k c1
    obtain ⟨m, rfl, rfl, w2⟩ := conv_int T_int_k c2
    obtain ⟨s, rfl, rfl⟩ := conv_str T_string_k c3
    simp only [Rows.uptoBulk] at hb ⊢
    obtain ⟨L, b, k', rfl, hL, hk⟩ := slice_dec T_S_Ty_k T_Ty_agg GTys.nil GTys.cons (fun d l h hb => dec_ty n d l h hb) d4 l4 c4 (by omega)
    refine ⟨.mk k m s L b, by rw [Ty.cells_mk]; rfl, by have := hL.1; simp only [Ty.size]; omega, fun a nd hn => ?_⟩
    simp only [nodesTy, List.mem_cons] at hn
    rcases hn with rfl | hn
    · simp only [TNode.ok, Ty.name]; omega
    · exact hL.2 a nd hn
def GPat (b : Nat) (t : Pat) : Prop := t.size ≤ b ∧ ∀ n ∈ nodesPat t, n.ok
def GPats (b : Nat) (l : List Pat) : Prop := Pat.sizes l ≤ b ∧ ∀ n ∈ nodesPats l, n.ok
theorem GPats.nil : GPats 0 [] := ⟨Nat.le_refl _, by simp [nodesPats]⟩
theorem GPats.cons (m k : Nat) (t : Pat) (L : List Pat) (h : GPat m t) (g : GPats k L) : GPats (m + k) (t :: L) := by
  refine ⟨by have := h.1; have := g.1; simp only [Pat.sizes]; omega, fun n hn => ?_⟩
  simp only [nodesPats, List.mem_append] at hn
  rcases hn with hn | hn
  · exact h.2 n hn
  · exact g.2 n hn
def GCon (b : Nat) (t : Con) : Prop := t.size ≤ b ∧ ∀ n ∈ nodesCon t, n.ok
def GCons (b : Nat) (l : List Con) : Prop := Con.sizes l ≤ b ∧ ∀ n ∈ nodesCons l, n.ok
theorem GCons.nil : GCons 0 [] := ⟨Nat.le_refl _, by simp [nodesCons]⟩
theorem GCons.cons (m k : Nat) (t : Con) (L : List Con) (h : GCon m t) (g : GCons k L) : GCons (m + k) (t :: L) := by
  refine ⟨by have := h.1; have := g.1; simp only [Con.sizes]; omega, fun n hn => ?_⟩
  simp only [nodesCons, List.mem_append] at hn
  rcases hn with hn | hn
  · exact h.2 n hn
  · exact g.2 n hn
def GExp (b : Nat) (t : Exp) : Prop := t.size ≤ b ∧ ∀ n ∈ nodesExp t, n.ok
def GExps (b : Nat) (l : List Exp) : Prop := Exp.sizes l ≤ b ∧ ∀ n ∈ nodesExps l, n.ok
def GCase (b : Nat) (t : Case) : Prop := t.size ≤ b ∧ ∀ n ∈ nodesCase t, n.ok
def GCases (b : Nat) (l : List Case) : Prop := Case.sizes l ≤ b ∧ ∀ n ∈ nodesCases l, n.ok
def GDec (b : Nat) (t : Dec) : Prop := t.size ≤ b ∧ ∀ i, ∀ n ∈ nodesDec i t, n.ok
def GDecs (b : Nat) (l : List Dec) : Prop := Dec.sizes l ≤ b ∧ ∀ i, ∀ n ∈ nodesDecs i l, n.ok
def GFun (b : Nat) (t : Fun) : Prop := t.size ≤ b ∧ ∀ n ∈ nodesFun t, n.ok
def GFuns (b : Nat) (l : List Fun) : Prop := Fun.sizes l ≤ b ∧ ∀ n ∈ nodesFuns l, n.ok
theorem GDecs.nil : GDecs 0 [] := ⟨by simp [Dec.sizes], by simp [nodesDecs]⟩
theorem GDecs.cons (m k : Nat) (t : Dec) (L : List Dec) (h : GDec m t) (g : GDecs k L) : GDecs (m + k) (t :: L) := by
  refine ⟨by have := h.1; have := g.1; simp only [Dec.sizes]; omega, fun i n hn => ?_⟩
  simp only [nodesDecs, List.mem_append] at hn
  rcases hn with hn | hn
  · exact h.2 i n hn
  · exact g.2 i n hn
theorem GExps.nil : GExps 0 [] := ⟨by simp [Exp.sizes], by simp [nodesExps]⟩
theorem GExps.cons (m k : Nat) (t : Exp) (L : List Exp) (h : GExp m t) (g : GExps k L) : GExps (m + k) (t :: L) := by
  refine ⟨by have := h.1; have := g.1; simp only [Exp.sizes]; omega, fun n hn => ?_⟩
  simp only [nodesExps, List.mem_append] at hn
  rcases hn with hn | hn
  · exact h.2 n hn
  · exact g.2 n hn
theorem GCases.nil : GCases 0 [] := ⟨by simp [Case.sizes], by simp [nodesCases]⟩
theorem GCases.cons (m k : Nat) (t : Case) (L : List Case) (h : GCase m t) (g : GCases k L) : GCases (m + k) (t :: L) := by
  refine ⟨by have := h.1; have := g.1; simp only [Case.sizes]; omega, fun n hn => ?_⟩
  simp only [nodesCases, List.mem_append] at hn
  rcases hn with hn | hn
  · exact h.2 n hn
  · exact g.2 n hn
theorem GFuns.nil : GFuns 0 [] := ⟨by simp [Fun.sizes], by simp [nodesFuns]⟩
theorem GFuns.cons (m k : Nat) (t : Fun) (L : List Fun) (h : GFun m t) (g : GFuns k L) : GFuns (m + k) (t :: L) := by
  refine ⟨by have := h.1; have := g.1; simp only [Fun.sizes]; omega, fun n hn => ?_⟩
  simp only [nodesFuns, List.mem_append] at hn
  rcases hn with hn | hn
  · exact h.2 n hn
  · exact g.2 n hn
end
end Go.Proofs.Ytfkihppbbeonkaa

namespace Go.Am
open Go Go.RowKit
section
variable {H : Type} {enc : TypeId × Value → H} {P : Program}
theorem Left0.cell {w w' : World} (h : Left0 w w') {b off : Nat} (hb : b < w.heap.size) : w'.cell? ⟨b, off, none⟩ = w.cell? ⟨b, off, none⟩ := by
  unfold World.cell?
  rw [h.heap b hb]
theorem Left0.sameAt {w w' : World} (h : Left0 w w') {p : MemPlace} (hp : p.block < w.heap.size) : w.sameAt w' p := by
  cases p with
  | cell b off => exact h.cell hp
  | map b => exact h.heap b hp
theorem Left0.kept {w w' : World} (h : Left0 w w') (may : MemPlace → Prop) : w.keptBut w' may := by
  refine ⟨h.os, h.output, fun i hi => ?_⟩
  rw [h.heap i hi]
  cases w.heap[i]? with
  | none => rfl
  | some o => cases o with
    | cells c t fr => exact ⟨rfl, rfl, rfl, fun _ _ => rfl⟩
    | map es clock => exact .inr ⟨rfl, rfl⟩
    | _ => rfl
theorem all_carry {w w' : World} {base : Nat} {spare : Nat → Bool} {held : Bool} : ∀ {ts : List TypeId} {vs : List Value} {ds : List (DataW H)} {ps : List MemPlace}, DataW.TrodAll enc P w base spare held ts vs ds ps → (∀ p ∈ ps, w.sameAt w' p) → DataW.TrodAll enc P w' base spare held ts vs ds ps
  | [], [], [], _, h, _ => h
  | t :: ts, v :: vs, d :: ds, _, h, hs => by
    obtain ⟨p, q, ⟨n, h1⟩, h2, rfl⟩ := h
    exact ⟨p, q, ⟨n, DataW.trod_carry n _ _ _ h1 fun x hx => hs x (List.mem_append_left _ hx)⟩, all_carry h2 fun x hx => hs x (List.mem_append_right _ hx), rfl⟩
/-- a law that is true, and leaves all that was there -/
theorem post_left {f : Func} {s : ChangeSpec} {apart fresh handsOn : Bool} {W W' : World} {args : Array Value} {v : Value} {ds gs : List (DataW H)} {before pv : List MemPlace}
    (hW : DataW.Whole enc P f.params.toList s.vars apart W args.toList ds gs before)
    (hres : ∀ (b : Nat) (sp : Nat → Bool) (hd : Bool), DataW.TrodAll enc P W' b sp hd f.resultTypes.toList (v.resultList f.resultTypes.size) (s.fn H (ds ++ gs)).results [])
    (hargs : ∀ sp : Nat → Bool, (∀ p ∈ before, sp p.block = true) → ∃ pa, DataW.TrodAll enc P W' 0 sp true f.params.toList args.toList (s.fn H (ds ++ gs)).args pa)
    (hvars : ∀ sp : Nat → Bool, DataW.TrodVars enc P W' sp s.vars (s.fn H (ds ++ gs)).vars pv) (hl : Left0 W W') :
    s.post enc P f apart fresh handsOn false W args v W' := by
  have hold : ∀ p ∈ before, (fun b => decide (b < W.heap.size)) p.block = true := fun p hp => by simpa using hW.lt p hp
  obtain ⟨pa, ha⟩ := hargs (fun b => decide (b < W.heap.size)) hold
  exact ⟨ds, gs, before, [], pa, pv, hW, hres _ _ _, ha, hvars _, hl.kept _, fun h => by cases h⟩
end
end Go.Am
namespace Go.Proofs.Ytfkihppbbeonkaa
open Go Go.Am Go.RowKit
set_option linter.unusedVariables false
theorem ext_C (f : Nat) (g : List AV → Option AV) (h : C.ext f = some g) : f = 72 ∧ g = extContains := by
  change findExt f exts = some g at h
  unfold exts findExt at h
  cases hf : Nat.beq f 72 with
  | false => rw [hf] at h; cases h
  | true =>
    rw [hf] at h
    exact ⟨Nat.eq_of_beq_eq_true hf, (Option.some.inj h).symm⟩
theorem types : ∀ t, TyOK Try.prog C t := types_ok types_all fun t ht => by
  show tis.getD t {} = {}
  rw [List.getD_eq_getElem?_getD, List.getElem?_eq_none ht]
  rfl
theorem ext_contains : ∀ (l : List AV) (v : AV), extContains l = some v → ∃ s t, l = [.str s, .str t] ∧ s.length < 4294967281 ∧ v = .bool (Go.Lib.contains s t)
  | [.str s, .str t], v, h => by
    simp only [extContains] at h
    split at h
    · cases h
      exact ⟨s, t, rfl, ‹_›, rfl⟩
    · cases h
theorem codeOK : CodeOK Try.prog C where
  ty := types
  code := code_ok rfl codes_all
  ext := by
    intro f g l v hf hg κ B s w vs hi hG hB hv
    obtain ⟨rfl, rfl⟩ := ext_C f g hf
    obtain ⟨x, y, rfl, hx, rfl⟩ := ext_contains l v hg
    obtain ⟨v1, r1, rfl, h1, v2, r2, rfl, h2, h3⟩ := hv
    cases r2 with
    | cons _ _ => cases h3
    | nil =>
      simp only [VR] at h1 h2
      obtain ⟨z1, rfl, rfl⟩ := h1
      obtain ⟨z2, rfl, rfl⟩ := h2
      obtain ⟨m, hm⟩ := hG.2 0 (by simp [C])
      have hc := hi.im 0 0 _ hm
      have hk := Try.strings_Contains z1 z2 m w (by simpa using hx) hc
      have he := enters_of Try.func72 (by kernel_rfl) (c := body Try.f72) (by kernel_rfl) #[.string z1, .string z2] w
      have hx := callsIn_wide (n := 0).2 hk
      refine .inr ⟨he, hx.mono fun e w' h => ?_⟩
      obtain ⟨h4, h5⟩ := h
      subst h4
      subst h5
      exact ⟨κ, .refl _ _, hi, by simp only [OutR, SR, VR]⟩
theorem globOK {W : World} (h : W.ShapedOpen Try.prog) : GlobOK C (kn0 W) := by
  refine ⟨fun g l hg => (by cases hg), fun g hg => ?_⟩
  obtain rfl : g = 0 := by simpa [C] using hg
  exact Try.laysM144.s1_3 W h
theorem arg_struct {P : Program} {W : World} {r : Reach} {base : Nat} {t : TypeId} {fs : Array Field} {v : Value} (hu : P.underlying t = some (.struct fs)) (h : Value.okWide P W r base t v) : ∃ cs, v = .agg cs := by
  unfold Value.okWide at h
  simp only [hu] at h
  obtain ⟨cs, rfl, _⟩ := h
  exact ⟨cs, rfl⟩
theorem kids : Kids Try.prog (· < Try.prog.types.size) := kids_rows (by kernel_rfl) (by kernel_rfl)
theorem full : ∀ t e, t < Try.prog.types.size → Try.prog.underlying t = some (.slice e) → 0 < Try.prog.cellsOf e := fun t e ht hu => slices_full_of Try.prog (by kernel_rfl) t e ht hu
/-- the arguments read again -/
theorem again {H : Type} {enc : TypeId × Value → H} {W W' : World} {ts : List TypeId} {vs : List Value} {ds : List (DataW H)} {ps : List MemPlace} (hts : ∀ t ∈ ts, t < Try.prog.types.size) (h : DataW.TrodAll enc Try.prog W 0 (fun _ => true) true ts vs ds ps) (hl : Left0 W W') (hlt : ∀ p ∈ ps, p.block < W.heap.size)
    (sp : Nat → Bool) (hsp : ∀ p ∈ ps, sp p.block = true) : ∃ pa, DataW.TrodAll enc Try.prog W' 0 sp true ts vs ds pa :=
  ⟨ps, all_carry (DataW.TrodAll.respare kids full hts h hsp) fun p hp => hl.sameAt (hlt p hp)⟩
end Go.Proofs.Ytfkihppbbeonkaa

namespace Go.Proofs.Ytfkihppbbeonkaa
open Go Go.Am Go.RowKit
theorem laid_nil (P : Program) (W : World) : laidMet P [] W := ⟨[], rfl, by simp, by simp⟩
theorem arg_agg {P : Program} {W : World} {r : Reach} {base : Nat} {t : TypeId} {v : Value} (hu : (match P.underlying t with | some (.struct _) => true | _ => false) = true) (h : Value.okWide P W r base t v) : ∃ cs, v = .agg cs := by
  cases hs : P.underlying t with
  | none => rw [hs] at hu; cases hu
  | some d =>
    rw [hs] at hu
    cases d <;> first | (cases hu; done) | exact arg_struct hs h
theorem vr_agg {κ : Kn} {l : List AV} {cs : Array Value} (h : VRl κ l cs.toList) (ho : Ones cs.toList) : VR κ (.agg l) (.agg cs) := by
  simp only [VR]
  exact ⟨cs.toList, h, ho, by rw [Array.toArray_toList]⟩
theorem vrl_cons {κ : Kn} {a : AV} {l : List AV} {v : Value} {vs : List Value} (h : VR κ a v) (g : VRl κ l vs) : VRl κ (a :: l) (v :: vs) := ⟨v, vs, rfl, h, g⟩
end Go.Proofs.Ytfkihppbbeonkaa

namespace Go.Am
open Go
def tvar (n : Int) : Ty := .mk 1 n [] [] true
mutual
def ownTy : Ty → Ty
  | .mk k n s l _ => .mk k n s (ownTys l) true
def ownTys : List Ty → List Ty
  | [] => []
  | t :: l => ownTy t :: ownTys l
end
def ofTy (name : Str) (l : List Ty) : Ty := .mk 2 0 name (l.map ownTy) true
def fnTy (a b : Ty) : Ty := ofTy [45, 62] [a, b]
section
variable {σ : Type} (to : Int → σ → Ty × σ)
mutual
def chTy : Ty → σ → Ty × σ
  | .mk k n s l _, st => bif decide (k = 1) then to n st else (.mk k n s (chTys l st).1 true, (chTys l st).2)
def chTys : List Ty → σ → List Ty × σ
  | [], st => ([], st)
  | t :: l, st => ((chTy t st).1 :: (chTys l (chTy t st).2).1, (chTys l (chTy t st).2).2)
end
end
def toPut (l : List Ty) (n : Int) (u : Unit) : Ty × Unit := (if 0 ≤ n ∧ n < l.length then ownTy (l.getD n.toNat default) else tvar n, u)
def putTy (t : Ty) (l : List Ty) : Ty := (chTy (toPut l) t ()).1
def placeI (n : Int) : List Int → Nat → Option Nat
  | [], _ => none
  | m :: l, i => if n = m then some i else placeI n l (i + 1)
def toCanon (n : Int) (old : List Int) : Ty × List Int :=
  match placeI n old 0 with
  | some i => (tvar i, old)
  | none => (tvar old.length, old ++ [n])
def canonTy (t : Ty) : Ty × List Int := chTy toCanon t []
def givenB (nm : Str) : Int × Int × Bool :=
  bif decide (nm = [105, 110, 116]) || decide (nm = [98, 111, 111, 108]) || decide (nm = [117, 110, 105, 116]) || decide (nm = [101, 120, 110]) then (0, 0, true) else
  bif decide (nm = [114, 101, 102]) then (1, 1, true) else bif decide (nm = [45, 62]) then (2, 2, true) else bif decide (nm = [42]) then (2, 8, true) else (0, 8, false)
def goodC (k n : Int) (nm : Str) (len : Int) (low : Bool) : Bool :=
  bif decide (k = 1) then decide (n ≥ 0) && decide (nm = []) && decide (len = 0)
  else bif decide (k = 2) then decide (n = 0) && decide (len ≥ (givenB nm).1) && decide (len ≤ (givenB nm).2.1) && ((givenB nm).2.2 || low)
  else false
def goodB (t : Ty) : Bool := goodC t.kind t.n t.name t.args.length (lowB t.name)
mutual
def allTy (p : Ty → Bool) : Ty → Bool
  | .mk k n s l b => p (.mk k n s l b) && allTys p l
def allTys (p : Ty → Bool) : List Ty → Bool
  | [] => true
  | t :: l => allTy p t && allTys p l
end
def rightTyB (t : Ty) : Bool := decide (t.size ≤ 256) && allTy goodB t
mutual
theorem ownTy_size : ∀ t : Ty, (ownTy t).size = t.size
  | .mk k n s l b => by simp only [ownTy, Ty.size, ownTys_size l]
theorem ownTys_size : ∀ l : List Ty, Ty.sizes (ownTys l) = Ty.sizes l
  | [] => rfl
  | t :: l => by simp only [ownTys, Ty.sizes, ownTy_size t, ownTys_size l]
end
theorem ownTys_map : ∀ l : List Ty, ownTys l = l.map ownTy
  | [] => rfl
  | t :: l => by rw [ownTys, ownTys_map l]; rfl
theorem nodesTys_mem (a : Int) : ∀ {l : List Ty} {t : Ty}, t ∈ l → ∀ n ∈ nodesTy a t, n ∈ nodesTys a l
  | x :: l, t, h, n, hn => by
    simp only [nodesTys, List.mem_append]
    rcases List.mem_cons.1 h with rfl | h
    · exact .inl hn
    · exact .inr (nodesTys_mem a h n hn)
/-- names within their bounds -/
def NamesTy (t : Ty) : Prop := ∀ n ∈ nodesTy 0 t, n.ok
theorem NamesTy.name {k n : Int} {s : Str} {l : List Ty} {b : Bool} (h : NamesTy (.mk k n s l b)) : s.length < 2^40 := h (.ty (.mk k n s l b) 0) (by simp only [nodesTy]; exact List.mem_cons_self)
theorem NamesTy.arg {k n : Int} {s : Str} {l : List Ty} {b : Bool} (h : NamesTy (.mk k n s l b)) {t : Ty} (ht : t ∈ l) : NamesTy t := fun nd hn => h nd (by simp only [nodesTy]; exact List.mem_cons_of_mem _ (nodesTys_mem 0 ht nd hn))
/-! ### no list of parts is too long -/
mutual
def WideTy : Ty → Prop
  | .mk _ _ _ l _ => l.length < 2^28 ∧ WideTys l
def WideTys : List Ty → Prop
  | [] => True
  | t :: l => WideTy t ∧ WideTys l
end
theorem WideTys.iff : ∀ {l : List Ty}, WideTys l ↔ ∀ t ∈ l, WideTy t
  | [] => by simp [WideTys]
  | t :: l => by simp only [WideTys, WideTys.iff (l := l), List.mem_cons, forall_eq_or_imp]
theorem WideTy.len {k n : Int} {s : Str} {l : List Ty} {b : Bool} (h : WideTy (.mk k n s l b)) : l.length < 2^28 := by simp only [WideTy] at h; exact h.1
theorem WideTy.arg {k n : Int} {s : Str} {l : List Ty} {b : Bool} (h : WideTy (.mk k n s l b)) {t : Ty} (ht : t ∈ l) : WideTy t := by simp only [WideTy] at h; exact WideTys.iff.1 h.2 t ht
mutual
theorem wide_of_size : ∀ (t : Ty), t.size < 2^28 → WideTy t
  | .mk k n s l b, h => by
    simp only [Ty.size] at h
    have := Ty.len_sizes l
    simp only [WideTy]
    exact ⟨by omega, wides_of_size l (by omega)⟩
theorem wides_of_size : ∀ (l : List Ty), Ty.sizes l < 2^28 → WideTys l
  | [], _ => trivial
  | t :: l, h => by
    simp only [Ty.sizes] at h
    exact ⟨wide_of_size t (by omega), wides_of_size l (by omega)⟩
end
mutual
theorem wide_own : ∀ (t : Ty), WideTy t → WideTy (ownTy t)
  | .mk k n s l b, h => by
    simp only [ownTy, WideTy] at h ⊢
    exact ⟨by rw [ownTys_map, List.length_map]; exact h.1, wides_own l h.2⟩
theorem wides_own : ∀ (l : List Ty), WideTys l → WideTys (ownTys l)
  | [], _ => trivial
  | t :: l, h => ⟨wide_own t h.1, wides_own l h.2⟩
end
theorem chTys_len {σ : Type} (to : Int → σ → Ty × σ) : ∀ (l : List Ty) (st : σ), (chTys to l st).1.length = l.length
  | [], _ => rfl
  | t :: l, st => by simp only [chTys, List.length_cons, chTys_len to l]
section
variable {σ : Type} (to : Int → σ → Ty × σ)
mutual
theorem wide_ch (h : ∀ n st, WideTy (to n st).1) : ∀ (t : Ty) (st : σ), WideTy t → WideTy (chTy to t st).1
  | .mk k n s l b, st, g => by
    simp only [chTy]
    cases decide (k = 1) with
    | true => exact h n st
    | false =>
      simp only [cond_false, WideTy] at g ⊢
      exact ⟨by rw [chTys_len]; exact g.1, wides_ch h l st g.2⟩
theorem wides_ch (h : ∀ n st, WideTy (to n st).1) : ∀ (l : List Ty) (st : σ), WideTys l → WideTys (chTys to l st).1
  | [], _, _ => trivial
  | t :: l, st, g => ⟨wide_ch h t st g.1, wides_ch h l _ g.2⟩
end
end
theorem wide_tvar (n : Int) : WideTy (tvar n) := by simp only [tvar, WideTy, WideTys]; decide
theorem wide_toPut (l : List Ty) (g : ∀ t ∈ l, WideTy t) (n : Int) (u : Unit) : WideTy (toPut l n u).1 := by
  simp only [toPut]
  split
  · rename_i hn
    have hm : n.toNat < l.length := by omega
    rw [List.getD_eq_getElem?_getD, List.getElem?_eq_getElem hm, Option.getD_some]
    exact wide_own _ (g _ (List.getElem_mem hm))
  · exact wide_tvar n
theorem wide_put (t : Ty) (l : List Ty) (h : WideTy t) (g : ∀ t ∈ l, WideTy t) : WideTy (putTy t l) := wide_ch (toPut l) (wide_toPut l g) t () h
/-! ### the document's way -/
mutual
/-- a type's nodes -/
def preTy : Ty → List Ty
  | .mk k n s l b => .mk k n s l b :: preTys l
def preTys : List Ty → List Ty
  | [] => []
  | t :: l => preTy t ++ preTys l
end
mutual
theorem nodesTy_pre (a : Int) : ∀ t : Ty, nodesTy a t = (preTy t).map fun u => TNode.ty u a
  | .mk k n s l b => by simp only [nodesTy, preTy, List.map_cons, nodesTys_pre a l]
theorem nodesTys_pre (a : Int) : ∀ l : List Ty, nodesTys a l = (preTys l).map fun u => TNode.ty u a
  | [] => rfl
  | t :: l => by simp only [nodesTys, preTys, List.map_append, nodesTy_pre a t, nodesTys_pre a l]
end
mutual
theorem preTy_len : ∀ t : Ty, (preTy t).length = t.size
  | .mk k n s l b => by simp only [preTy, Ty.size, List.length_cons, preTys_len l]
theorem preTys_len : ∀ l : List Ty, (preTys l).length = Ty.sizes l
  | [] => rfl
  | t :: l => by simp only [preTys, Ty.sizes, List.length_append, preTy_len t, preTys_len l]
end
mutual
theorem allTy_pre (p : Ty → Bool) : ∀ t : Ty, allTy p t = (preTy t).all p
  | .mk k n s l b => by simp only [allTy, preTy, List.all_cons, allTys_pre p l]
theorem allTys_pre (p : Ty → Bool) : ∀ l : List Ty, allTys p l = (preTys l).all p
  | [] => rfl
  | t :: l => by simp only [allTys, preTys, List.all_append, allTy_pre p t, allTys_pre p l]
end
theorem NamesTy.pre {t : Ty} (h : NamesTy t) : ∀ u ∈ preTy t, u.name.length < 2^40 := fun u hu => by
  have := h (.ty u 0) (by rw [nodesTy_pre]; exact List.mem_map.2 ⟨u, hu, rfl⟩)
  exact this
def placeR (n : Int) (l : List Int) : Int := match placeI n l 0 with | some i => i | none => -1
def varsL : List Ty → List Int → List Int
  | [], acc => acc
  | u :: r, acc => varsL r (bif decide (u.kind = 1) && decide (placeR u.n acc < 0) then acc ++ [u.n] else acc)
mutual
def putR (l : List Ty) : Ty → Ty
  | .mk k n s a b => bif decide (k = 1) then (if 0 ≤ n ∧ n < l.length then ownTy (l.getD n.toNat default) else ownTy (.mk k n s a b)) else .mk k n s (putRs l a) true
def putRs (l : List Ty) : List Ty → List Ty
  | [] => []
  | t :: r => putR l t :: putRs l r
end
mutual
def renR (v : List Int) : Ty → Ty
  | .mk k n s a _ => bif decide (k = 1) then tvar (placeR n v) else .mk k n s (renRs v a) true
def renRs (v : List Int) : List Ty → List Ty
  | [] => []
  | t :: r => renR v t :: renRs v r
end
end Go.Am

namespace Go.Am
open Go
mutual
def eqTy : Ty → Ty → Bool
  | .mk k n s l _, .mk k' n' s' l' _ => decide (k = k') && decide (n = n') && decide (s = s') && eqTys l l'
def eqTys : List Ty → List Ty → Bool
  | [], [] => true
  | t :: l, u :: m => eqTy t u && eqTys l m
  | _, _ => false
end
def atB (w : Bool) (a b : Int) : Bool := !w || decide (a = b)
mutual
def eqPat (w : Bool) : Pat → Pat → Bool
  | .mk k a s n l _, .mk k' a' s' n' l' _ => decide (k = k') && decide (n = n') && decide (s = s') && atB w a a' && eqPats w l l'
def eqPats (w : Bool) : List Pat → List Pat → Bool
  | [], [] => true
  | t :: l, u :: m => eqPat w t u && eqPats w l m
  | _, _ => false
end
def eqCon (w : Bool) (c d : Con) : Bool := decide (c.name = d.name) && decide (c.has = d.has) && atB w c.at_ d.at_ && eqTy c.arg d.arg
def eqCons (w : Bool) : List Con → List Con → Bool
  | [], [] => true
  | t :: l, u :: m => eqCon w t u && eqCons w l m
  | _, _ => false
mutual
def eqExp (w : Bool) : Exp → Exp → Bool
  | .mk k a s n l _ c _ d _, .mk k' a' s' n' l' _ c' _ d' _ => decide (k = k') && decide (n = n') && decide (s = s') && atB w a a' && eqExps w l l' && eqCases w c c' && eqDecs w d d'
def eqExps (w : Bool) : List Exp → List Exp → Bool
  | [], [] => true
  | t :: l, u :: m => eqExp w t u && eqExps w l m
  | _, _ => false
def eqCase (w : Bool) : Case → Case → Bool
  | .mk p e, .mk p' e' => eqPat w p p' && eqExp w e e'
def eqCases (w : Bool) : List Case → List Case → Bool
  | [], [] => true
  | t :: l, u :: m => eqCase w t u && eqCases w l m
  | _, _ => false
def eqDec (w : Bool) : Dec → Dec → Bool
  | .mk k a s p l _ c _ f _, .mk k' a' s' p' l' _ c' _ f' _ => decide (k = k') && decide (s = s') && decide (p = p') && atB w a a' && eqCases w c c' && eqFuns w f f' && eqCons w l l'
def eqDecs (w : Bool) : List Dec → List Dec → Bool
  | [], [] => true
  | t :: l, u :: m => eqDec w t u && eqDecs w l m
  | _, _ => false
def eqFun (w : Bool) : Fun → Fun → Bool
  | .mk s a c, .mk s' a' c' => decide (s = s') && atB w a a' && eqCase w c c'
def eqFuns (w : Bool) : List Fun → List Fun → Bool
  | [], [] => true
  | t :: l, u :: m => eqFun w t u && eqFuns w l m
  | _, _ => false
end
theorem eqTys_len : ∀ l m : List Ty, l.length ≠ m.length → eqTys l m = false
  | [], [], h => absurd rfl h
  | [], _ :: _, _ => by simp only [eqTys]
  | _ :: _, [], _ => by simp only [eqTys]
  | t :: l, u :: m, h => by rw [eqTys, eqTys_len l m (by simpa using h), Bool.and_false]
end Go.Am

namespace Go.Proofs.Ytfkihppbbeonkaa
open Go Go.Am
set_option linter.unusedVariables false
theorem tree_small_spec (n : Int) (s : St) : cw (.f F_tree_small) [.int .u8 n] s = some (.ret (.val (.bool (smallB n))), s) := by
  rw [tree_small_eq]; simp only [go_sem, Nat.reduceAdd, Nat.reduceLeDiff, Nat.reduceSub, Nat.reduceMul, Nat.reduceEqDiff, Int.reduceEq, Int.reduceLT, Int.reduceLE, Int.reduceAdd, Int.reduceSub, Int.reduceNeg, Int.reduceGT, Int.reduceGE, Int.reduceNe, ne_eq, not_false_eq_true]; rfl
theorem tree_great_spec (n : Int) (s : St) : cw (.f F_tree_great) [.int .u8 n] s = some (.ret (.val (.bool (greatB n))), s) := by
  rw [tree_great_eq]; simp only [go_sem, Nat.reduceAdd, Nat.reduceLeDiff, Nat.reduceSub, Nat.reduceMul, Nat.reduceEqDiff, Int.reduceEq, Int.reduceLT, Int.reduceLE, Int.reduceAdd, Int.reduceSub, Int.reduceNeg, Int.reduceGT, Int.reduceGE, Int.reduceNe, ne_eq, not_false_eq_true]; rfl
theorem tree_isInt_spec (n : Int) (s : St) : cw (.f F_tree_isInt) [.int .i64 n] s = some (.ret (.val (.bool (isIntB n))), s) := by
  rw [tree_isInt_eq]; simp only [go_sem, Nat.reduceAdd, Nat.reduceLeDiff, Nat.reduceSub, Nat.reduceMul, Nat.reduceEqDiff, Int.reduceEq, Int.reduceLT, Int.reduceLE, Int.reduceAdd, Int.reduceSub, Int.reduceNeg, Int.reduceGT, Int.reduceGE, Int.reduceNe, ne_eq, not_false_eq_true]; rfl
theorem tree_run_loop (l : Str) (pre : Str) : ∀ (suf : Str) (s : St), pre ++ suf = l → l.length < 2^62 → tree_run_l0 (.val (.str l)) (.val (.int .i64 pre.length)) s = some (.ret (.val (.bool (restAll suf && decide (l.length ≤ 32)))), s) := by
  intro suf
  induction suf generalizing pre with
  | nil =>
    intro s h hl
    rw [List.append_nil] at h
    subst h
    rw [tree_run_l0_eq]; simp only [lenS_str T_string_k, bind1_some, binS_lss, condS_bool]
    rw [ifR_neg (by simp)]
    simp only [go_sem, Nat.reduceAdd, Nat.reduceLeDiff, Nat.reduceSub, Nat.reduceMul, Nat.reduceEqDiff, Int.reduceEq, Int.reduceLT, Int.reduceLE, Int.reduceAdd, Int.reduceSub, Int.reduceNeg, Int.reduceGT, Int.reduceGE, Int.reduceNe, ne_eq, not_false_eq_true]
    simp [restAll]
    omega
  | cons c suf ih =>
    intro s h hl
    have hc : l[pre.length]? = some c := by rw [← h]; simp
    have hlt : pre.length < l.length := by rw [← h]; simp
    have := ih (pre ++ [c]) s (by simp [h]) hl
    rw [tree_run_l0_eq]
    simp only [lenS_str T_string_k, bind1_some, binS_lss, condS_bool]
    rw [ifR_pos (by simpa using hlt), indexS_str T_string_k hc]
    simp only [go_sem, Nat.reduceAdd, Nat.reduceLeDiff, Nat.reduceSub, Nat.reduceMul, Nat.reduceEqDiff, Int.reduceEq, Int.reduceLT, Int.reduceLE, Int.reduceAdd, Int.reduceSub, Int.reduceNeg, Int.reduceGT, Int.reduceGE, Int.reduceNe, ne_eq, not_false_eq_true, tree_small_spec, tree_great_spec]
    rw [wrap64 (by omega) (by omega)]
    have e : (pre.length : Int) + 1 = ((pre ++ [c]).length : Int) := by simp
    rw [e, this]
    simp only [go_sem, restAll, List.all_cons, unrestB]
    cases (!smallB c.toNat && !greatB c.toNat && (decide ((c.toNat : Int) < 48) || decide ((c.toNat : Int) > 57)) && !decide ((c.toNat : Int) = 39)) <;> simp
theorem tree_run_spec (l : Str) (s : St) (h0 : l ≠ []) (hl : l.length < 2^62) : cw (.f F_tree_run) [.str l] s = some (.ret (.val (.bool (runB l))), s) := by
  rw [tree_run_eq]
  cases l with
  | nil => exact absurd rfl h0
  | cons c l => exact tree_run_loop (c :: l) [c] l s rfl hl
theorem strings_Contains_spec (a b : Str) (s : St) (h : a.length < 4294967281) : cw (.f F_strings_Contains) [.str a, .str b] s = some (.ret (.val (.bool (Go.Lib.contains a b))), s) := by
  have e : C.ext F_strings_Contains = some extContains := by kernel_rfl
  rw [cw, callw_f]; unfold callR; rw [e]; simp [extContains, h]
theorem tree_capital_spec (l : Str) (s : St) (hl : l.length < 2^62) : cw (.f F_tree_capital) [.str l] s = some (.ret (.val (.bool (capB l))), s) := by
  rw [tree_capital_eq]
  by_cases h0 : l = []
  · subst h0; simp only [go_sem, Nat.reduceAdd, Nat.reduceLeDiff, Nat.reduceSub, Nat.reduceMul, Nat.reduceEqDiff, Int.reduceEq, Int.reduceLT, Int.reduceLE, Int.reduceAdd, Int.reduceSub, Int.reduceNeg, Int.reduceGT, Int.reduceGE, Int.reduceNe, ne_eq, not_false_eq_true]; rfl
  · simp only [go_sem, Nat.reduceAdd, Nat.reduceLeDiff, Nat.reduceSub, Nat.reduceMul, Nat.reduceEqDiff, Int.reduceEq, Int.reduceLT, Int.reduceLE, Int.reduceAdd, Int.reduceSub, Int.reduceNeg, Int.reduceGT, Int.reduceGE, Int.reduceNe, ne_eq, not_false_eq_true, h0, tree_great_spec, not_false_eq_true, indexS_zero T_string_k h0, tree_run_spec l s h0 hl]
    simp [capB, h0, headB]
theorem tree_constructor_spec (l : Str) (s : St) (hl : l.length < 2^62) : cw (.f F_tree_constructor) [.str l] s = some (.ret (.val (.bool (conB l))), s) := by
  rw [tree_constructor_eq]
  simp only [go_sem, Nat.reduceAdd, Nat.reduceLeDiff, Nat.reduceSub, Nat.reduceMul, Nat.reduceEqDiff, Int.reduceEq, Int.reduceLT, Int.reduceLE, Int.reduceAdd, Int.reduceSub, Int.reduceNeg, Int.reduceGT, Int.reduceGE, Int.reduceNe, ne_eq, not_false_eq_true, tree_capital_spec l s hl]
  rfl
theorem tree_low_spec (l : Str) (s : St) (hl : l.length < 2^62) : cw (.f F_tree_low) [.str l] s = some (.ret (.val (.bool (lowB l))), s) := by
  rw [tree_low_eq]
  by_cases h0 : l = []
  · subst h0; simp only [go_sem, Nat.reduceAdd, Nat.reduceLeDiff, Nat.reduceSub, Nat.reduceMul, Nat.reduceEqDiff, Int.reduceEq, Int.reduceLT, Int.reduceLE, Int.reduceAdd, Int.reduceSub, Int.reduceNeg, Int.reduceGT, Int.reduceGE, Int.reduceNe, ne_eq, not_false_eq_true]; rfl
  · have hk : K_80c441cf = wordsS := by decide +kernel
    have hc := fun b s => strings_Contains_spec wordsS b s (by decide +kernel)
    simp only [go_sem, Nat.reduceAdd, Nat.reduceLeDiff, Nat.reduceSub, Nat.reduceMul, Nat.reduceEqDiff, Int.reduceEq, Int.reduceLT, Int.reduceLE, Int.reduceAdd, Int.reduceSub, Int.reduceNeg, Int.reduceGT, Int.reduceGE, Int.reduceNe, ne_eq, not_false_eq_true, h0, tree_small_spec, not_false_eq_true, indexS_zero T_string_k h0, tree_run_spec l s h0 hl, binS_sadd (C.ti T_string) [32] l (by simp; omega), binS_sadd (C.ti T_string) (32 :: l) [32] (by simp; omega), hk, hc]
    simp [lowB, h0, headB, Bool.and_assoc]
end Go.Proofs.Ytfkihppbbeonkaa

namespace Go.Proofs.Ytfkihppbbeonkaa
open Go Go.Am
set_option linter.unusedVariables false
set_option maxRecDepth 4000
theorem tree_wrongTy_spec (t : Ty) (s : St) (hn : t.name.length < 2^62) : cw (.f F_tree_wrongTy) [t.enc] s = some (.ret (.val (.int .i64 (wrongTyB t))), s) := by
  obtain ⟨k, n, nm, l, nl⟩ := t
  rw [tree_wrongTy_eq]
  simp only [go_sem, Nat.reduceAdd, Nat.reduceLeDiff, Nat.reduceSub, Nat.reduceMul, Nat.reduceEqDiff, Int.reduceEq, Int.reduceLT, Int.reduceLE, Int.reduceAdd, Int.reduceSub, Int.reduceNeg, Int.reduceGT, Int.reduceGE, Int.reduceNe, ne_eq, not_false_eq_true, tree_wrongTy_j0_eq, tree_wrongTy_j1_eq, tree_low_spec nm _ hn]
  show _ = some (Out.ret (.val (.int .i64 (wrongTyC k n nm l.length))), s)
  delta wrongTyC tyLM
  generalize decide (nm = [105, 110, 116]) = x1
  generalize decide (nm = [98, 111, 111, 108]) = x2
  generalize decide (nm = [117, 110, 105, 116]) = x3
  generalize decide (nm = [101, 120, 110]) = x4
  generalize decide (nm = [114, 101, 102]) = x5
  generalize decide (nm = [45, 62]) = x6
  generalize decide (nm = [42]) = x7
  generalize lowB nm = x8
  cases x1 <;> cases x2 <;> cases x3 <;> cases x4 <;> cases x5 <;> cases x6 <;> cases x7 <;> cases x8 <;> rfl
theorem tree_wrongPat_spec (t : Pat) (s : St) (hn : t.name.length < 2^62) : cw (.f F_tree_wrongPat) [t.enc] s = some (.ret (.val (.int .i64 (wrongPatB t))), s) := by
  obtain ⟨k, a, nm, n, l, nl⟩ := t
  rw [tree_wrongPat_eq]
  have hk : k = 1 ∨ k = 2 ∨ k = 3 ∨ k = 4 ∨ k = 5 ∨ k = 6 ∨ (k < 1 ∨ k > 6) := by omega
  rcases hk with rfl | rfl | rfl | rfl | rfl | rfl | hk
  rotate_left 6
  · simp only [go_sem, Nat.reduceAdd, Nat.reduceLeDiff, Nat.reduceSub, Nat.reduceMul, Nat.reduceEqDiff, Int.reduceEq, Int.reduceLT, Int.reduceLE, Int.reduceAdd, Int.reduceSub, Int.reduceNeg, Int.reduceGT, Int.reduceGE, Int.reduceNe, ne_eq, not_false_eq_true, decide_eq_false (show ¬ k = 1 by omega), decide_eq_false (show ¬ k = 2 by omega), decide_eq_false (show ¬ k = 3 by omega), decide_eq_false (show ¬ k = 4 by omega), decide_eq_false (show ¬ k = 5 by omega), decide_eq_false (show ¬ k = 6 by omega)]
    have : (decide (k < 1) || decide (k > 6)) = true := by simpa using hk
    have e : wrongPatB (Pat.mk k a nm n l nl) = 29 := by
      show (bif (decide (k < 1) || decide (k > 6)) then (29 : Int) else _) = 29
      rw [this]; rfl
    rw [e]
  all_goals
    simp only [go_sem, Nat.reduceAdd, Nat.reduceLeDiff, Nat.reduceSub, Nat.reduceMul, Nat.reduceEqDiff, Int.reduceEq, Int.reduceLT, Int.reduceLE, Int.reduceAdd, Int.reduceSub, Int.reduceNeg, Int.reduceGT, Int.reduceGE, Int.reduceNe, ne_eq, not_false_eq_true, tree_wrongPat_j0_eq, tree_low_spec nm _ hn, tree_constructor_spec nm _ hn, tree_isInt_spec, wrongPatB, patLM, Pat.kind, Pat.name, Pat.n, Pat.kids]
    try rfl
theorem tree_wrongCon_spec (c : Con) (s : St) (hn : c.name.length < 2^62) : cw (.f F_tree_wrongCon) [c.enc] s = some (.ret (.val (.int .i64 (wrongConB c))), s) := by
  rw [tree_wrongCon_eq]
  simp only [go_sem, Nat.reduceAdd, Nat.reduceLeDiff, Nat.reduceSub, Nat.reduceMul, Nat.reduceEqDiff, Int.reduceEq, Int.reduceLT, Int.reduceLE, Int.reduceAdd, Int.reduceSub, Int.reduceNeg, Int.reduceGT, Int.reduceGE, Int.reduceNe, ne_eq, not_false_eq_true, Con.cells, Ty.cells_eq, tree_capital_spec _ _ hn]
  rfl
theorem tree_wrongExp_spec (e : Exp) (s : St) (hn : e.name.length < 2^62) : cw (.f F_tree_wrongExp) [e.enc] s = some (.ret (.val (.int .i64 (wrongExpB e))), s) := by
  obtain ⟨k, a, nm, n, l, lb, c, cb, d, db⟩ := e
  rw [tree_wrongExp_eq]
  have hk : k = 1 ∨ k = 2 ∨ k = 3 ∨ k = 4 ∨ k = 5 ∨ k = 6 ∨ k = 7 ∨ k = 8 ∨ k = 9 ∨ k = 10 ∨ k = 11 ∨ k = 12 ∨ k = 13 ∨ k = 14 ∨ k = 15 ∨ k = 16 ∨ k = 17 ∨ k = 18 ∨ k = 19 ∨ k = 20 ∨ (k < 1 ∨ k > 20) := by omega
  rcases hk with rfl | rfl | rfl | rfl | rfl | rfl | rfl | rfl | rfl | rfl | rfl | rfl | rfl | rfl | rfl | rfl | rfl | rfl | rfl | rfl | hk
  rotate_left 20
  · simp only [go_sem, Nat.reduceAdd, Nat.reduceLeDiff, Nat.reduceSub, Nat.reduceMul, Nat.reduceEqDiff, Int.reduceEq, Int.reduceLT, Int.reduceLE, Int.reduceAdd, Int.reduceSub, Int.reduceNeg, Int.reduceGT, Int.reduceGE, Int.reduceNe, ne_eq, not_false_eq_true, tree_fields_eq, decide_eq_false (show ¬ k = 1 by omega), decide_eq_false (show ¬ k = 2 by omega), decide_eq_false (show ¬ k = 3 by omega), decide_eq_false (show ¬ k = 4 by omega), decide_eq_false (show ¬ k = 5 by omega), decide_eq_false (show ¬ k = 6 by omega), decide_eq_false (show ¬ k = 7 by omega), decide_eq_false (show ¬ k = 8 by omega), decide_eq_false (show ¬ k = 9 by omega), decide_eq_false (show ¬ k = 10 by omega), decide_eq_false (show ¬ k = 11 by omega), decide_eq_false (show ¬ k = 12 by omega), decide_eq_false (show ¬ k = 13 by omega), decide_eq_false (show ¬ k = 14 by omega), decide_eq_false (show ¬ k = 15 by omega), decide_eq_false (show ¬ k = 16 by omega), decide_eq_false (show ¬ k = 17 by omega), decide_eq_false (show ¬ k = 18 by omega), decide_eq_false (show ¬ k = 19 by omega), decide_eq_false (show ¬ k = 20 by omega)]
    have h : (decide (k < 1) || decide (k > 20)) = true := by simpa using hk
    have e : wrongExpB (Exp.mk k a nm n l lb c cb d db) = 29 := by
      show (bif (decide (k < 1) || decide (k > 20) || _ || _ || _ || _ || _) then (29 : Int) else _) = 29
      rw [h]; rfl
    rw [e]
  all_goals
    simp only [go_sem, Nat.reduceAdd, Nat.reduceLeDiff, Nat.reduceSub, Nat.reduceMul, Nat.reduceEqDiff, Int.reduceEq, Int.reduceLT, Int.reduceLE, Int.reduceAdd, Int.reduceSub, Int.reduceNeg, Int.reduceGT, Int.reduceGE, Int.reduceNe, ne_eq, not_false_eq_true, tree_fields_eq, tree_low_spec nm _ hn, tree_constructor_spec nm _ hn, tree_isInt_spec, wrongExpB, expLM, Exp.kind, Exp.name, Exp.n, Exp.kids, Exp.cases, Exp.decs]
    try rfl
theorem tree_wrongDec_spec (d : Dec) (inn : Bool) (a : Int) (r : List AV) (s : St) (hn : d.name.length < 2^62) : cw (.f F_tree_thing_wrongDec) [.agg [.cp (d.cells ++ r), .bool inn, .nilp, .nilp, .nilp, .nilp, .nilp, .int .i64 a]] s = some (.ret (.val (.int .i64 (wrongDecB d inn))), s) := by
  obtain ⟨k, at_, nm, p, l, nb, c, cb, f, fb⟩ := d
  rw [tree_thing_wrongDec_eq]
  simp only [go_sem, Nat.reduceAdd, Nat.reduceLeDiff, Nat.reduceSub, Nat.reduceMul, Nat.reduceEqDiff, Int.reduceEq, Int.reduceLT, Int.reduceLE, Int.reduceAdd, Int.reduceSub, Int.reduceNeg, Int.reduceGT, Int.reduceGE, Int.reduceNe, ne_eq, not_false_eq_true, tree_low_spec nm _ hn, tree_thing_wrongDec_j0_eq]
  show _ = some (Out.ret (.val (.int .i64 (wrongDecC k nm p l.length c.length f.length inn))), s)
  delta wrongDecC
  generalize decide (k = 1) = x1
  generalize decide (k = 2) = x2
  generalize decide (k = 3) = x3
  generalize decide (k = 4) = x4
  cases x1 <;> cases x2 <;> cases x3 <;> cases x4 <;> rfl
end Go.Proofs.Ytfkihppbbeonkaa

namespace Go.Proofs.Ytfkihppbbeonkaa
open Go Go.Am
set_option linter.unusedVariables false
set_option maxRecDepth 4000
theorem tree_thing_node_spec (nd : TNode) (r : List AV) (s : St) : cw (.f F_tree_thing_node) [nd.thing r] s = some (.ret (.val (.bool nd.isNode)), s) := by
  rw [tree_thing_node_eq]
  cases nd <;> simp only [go_sem, Nat.reduceAdd, Nat.reduceLeDiff, Nat.reduceSub, Nat.reduceMul, Nat.reduceEqDiff, Int.reduceEq, Int.reduceLT, Int.reduceLE, Int.reduceAdd, Int.reduceSub, Int.reduceNeg, Int.reduceGT, Int.reduceGE, Int.reduceNe, ne_eq, not_false_eq_true, TNode.thing, TNode.isNode]
theorem tree_thing_wrong_spec (nd : TNode) (r : List AV) (s : St) (h : nd.name.length < 2^40) : cw (.f F_tree_thing_wrong) [nd.thing r] s = some (.ret (.val nd.bad.enc), s) := by
  rw [tree_thing_wrong_eq]
  have key : ∀ (e a : Int) (nm : Str) (v : List Slot) (s : St), v.getD 7 .und = .val (.int .i64 a) → v.length = 8 → tree_thing_wrong_j0 v [.val (.int .i64 0), .val (.int .i64 0), .val (.str [])] (.val (.int .i64 e)) (.val (.str nm)) s = some (.ret (.val (mkBad e a nm).enc), s) := by
    intro e a nm v s hv hl
    have hd : (v.drop 7).take 1 = [.val (.int .i64 a)] := by
      match v, hl with
      | [_, _, _, _, _, _, _, x], _ => simpa using hv
    rw [tree_thing_wrong_j0_eq]
    by_cases h0 : e = 0
    · subst h0
      simp only [go_sem, Nat.reduceAdd, Nat.reduceLeDiff, Nat.reduceSub, Nat.reduceMul, Nat.reduceEqDiff, Int.reduceEq, Int.reduceLT, Int.reduceLE, Int.reduceAdd, Int.reduceSub, Int.reduceNeg, Int.reduceGT, Int.reduceGE, Int.reduceNe, ne_eq, not_false_eq_true, hd]
      rfl
    · by_cases h8 : e = 8
      · subst h8
        simp only [go_sem, Nat.reduceAdd, Nat.reduceLeDiff, Nat.reduceSub, Nat.reduceMul, Nat.reduceEqDiff, Int.reduceEq, Int.reduceLT, Int.reduceLE, Int.reduceAdd, Int.reduceSub, Int.reduceNeg, Int.reduceGT, Int.reduceGE, Int.reduceNe, ne_eq, not_false_eq_true, hd]
        rfl
      · simp only [go_sem, Nat.reduceAdd, Nat.reduceLeDiff, Nat.reduceSub, Nat.reduceMul, Nat.reduceEqDiff, Int.reduceEq, Int.reduceLT, Int.reduceLE, Int.reduceAdd, Int.reduceSub, Int.reduceNeg, Int.reduceGT, Int.reduceGE, Int.reduceNe, ne_eq, not_false_eq_true, hd, decide_eq_false h0, decide_eq_false h8, mkBad]
        rfl
  cases nd with
  | dec inn d =>
    have hn : d.name.length < 2^62 := by simp only [TNode.name] at h; omega
    have hw := fun s => tree_wrongDec_spec d inn d.at_ r s hn
    obtain ⟨k, a, nm, p, l, nb, c, cb, f, fb⟩ := d
    simp only [go_sem, Nat.reduceAdd, Nat.reduceLeDiff, Nat.reduceSub, Nat.reduceMul, Nat.reduceEqDiff, Int.reduceEq, Int.reduceLT, Int.reduceLE, Int.reduceAdd, Int.reduceSub, Int.reduceNeg, Int.reduceGT, Int.reduceGE, Int.reduceNe, ne_eq, not_false_eq_true, Exp.enc, Pat.enc, Ty.enc, Dec.enc] at hw
    simp only [go_sem, Nat.reduceAdd, Nat.reduceLeDiff, Nat.reduceSub, Nat.reduceMul, Nat.reduceEqDiff, Int.reduceEq, Int.reduceLT, Int.reduceLE, Int.reduceAdd, Int.reduceSub, Int.reduceNeg, Int.reduceGT, Int.reduceGE, Int.reduceNe, ne_eq, not_false_eq_true, TNode.thing, hw]
    exact key _ _ _ _ _ rfl rfl
  | exp e =>
    have hn : e.name.length < 2^62 := by simp only [TNode.name] at h; omega
    have hw := fun s => tree_wrongExp_spec e s hn
    obtain ⟨k, a, nm, n, l, lb, c, cb, d, db⟩ := e
    simp only [go_sem, Nat.reduceAdd, Nat.reduceLeDiff, Nat.reduceSub, Nat.reduceMul, Nat.reduceEqDiff, Int.reduceEq, Int.reduceLT, Int.reduceLE, Int.reduceAdd, Int.reduceSub, Int.reduceNeg, Int.reduceGT, Int.reduceGE, Int.reduceNe, ne_eq, not_false_eq_true, Exp.enc, Pat.enc, Ty.enc, Dec.enc] at hw
    simp only [go_sem, Nat.reduceAdd, Nat.reduceLeDiff, Nat.reduceSub, Nat.reduceMul, Nat.reduceEqDiff, Int.reduceEq, Int.reduceLT, Int.reduceLE, Int.reduceAdd, Int.reduceSub, Int.reduceNeg, Int.reduceGT, Int.reduceGE, Int.reduceNe, ne_eq, not_false_eq_true, TNode.thing, hw]
    exact key _ _ _ _ _ rfl rfl
  | pat e =>
    have hn : e.name.length < 2^62 := by simp only [TNode.name] at h; omega
    have hw := fun s => tree_wrongPat_spec e s hn
    obtain ⟨k, a, nm, n, l, lb⟩ := e
    simp only [go_sem, Nat.reduceAdd, Nat.reduceLeDiff, Nat.reduceSub, Nat.reduceMul, Nat.reduceEqDiff, Int.reduceEq, Int.reduceLT, Int.reduceLE, Int.reduceAdd, Int.reduceSub, Int.reduceNeg, Int.reduceGT, Int.reduceGE, Int.reduceNe, ne_eq, not_false_eq_true, Exp.enc, Pat.enc, Ty.enc, Dec.enc] at hw
    simp only [go_sem, Nat.reduceAdd, Nat.reduceLeDiff, Nat.reduceSub, Nat.reduceMul, Nat.reduceEqDiff, Int.reduceEq, Int.reduceLT, Int.reduceLE, Int.reduceAdd, Int.reduceSub, Int.reduceNeg, Int.reduceGT, Int.reduceGE, Int.reduceNe, ne_eq, not_false_eq_true, TNode.thing, hw]
    exact key _ _ _ _ _ rfl rfl
  | ty e a =>
    have hn : e.name.length < 2^62 := by simp only [TNode.name] at h; omega
    have hw := fun s => tree_wrongTy_spec e s hn
    obtain ⟨k, n, nm, l, lb⟩ := e
    simp only [go_sem, Nat.reduceAdd, Nat.reduceLeDiff, Nat.reduceSub, Nat.reduceMul, Nat.reduceEqDiff, Int.reduceEq, Int.reduceLT, Int.reduceLE, Int.reduceAdd, Int.reduceSub, Int.reduceNeg, Int.reduceGT, Int.reduceGE, Int.reduceNe, ne_eq, not_false_eq_true, Exp.enc, Pat.enc, Ty.enc, Dec.enc] at hw
    simp only [go_sem, Nat.reduceAdd, Nat.reduceLeDiff, Nat.reduceSub, Nat.reduceMul, Nat.reduceEqDiff, Int.reduceEq, Int.reduceLT, Int.reduceLE, Int.reduceAdd, Int.reduceSub, Int.reduceNeg, Int.reduceGT, Int.reduceGE, Int.reduceNe, ne_eq, not_false_eq_true, TNode.thing, hw]
    exact key _ _ _ _ _ rfl rfl
  | fn f =>
    have hn : f.name.length < 2^62 := by simp only [TNode.name] at h; omega
    have hw := fun s => tree_low_spec f.name s hn
    obtain ⟨nm, a, c⟩ := f
    simp only [Fun.name] at hw
    have k0 := fun v s h1 h2 => key 0 a nm v s h1 h2
    have k8 := fun v s h1 h2 => key 8 a nm v s h1 h2
    simp only [go_sem, Nat.reduceAdd, Nat.reduceLeDiff, Nat.reduceSub, Nat.reduceMul, Nat.reduceEqDiff, Int.reduceEq, Int.reduceLT, Int.reduceLE, Int.reduceAdd, Int.reduceSub, Int.reduceNeg, Int.reduceGT, Int.reduceGE, Int.reduceNe, ne_eq, not_false_eq_true, TNode.thing, hw, Fun.at_]
    show _ = some (Out.ret (.val (mkBad (bif !lowB nm then 8 else 0) a nm).enc), s)
    cases lowB nm
    · simp only [go_sem, Nat.reduceAdd, Nat.reduceLeDiff, Nat.reduceSub, Nat.reduceMul, Nat.reduceEqDiff, Int.reduceEq, Int.reduceLT, Int.reduceLE, Int.reduceAdd, Int.reduceSub, Int.reduceNeg, Int.reduceGT, Int.reduceGE, Int.reduceNe, ne_eq, not_false_eq_true]; exact key 8 a nm _ s rfl rfl
    · simp only [go_sem, Nat.reduceAdd, Nat.reduceLeDiff, Nat.reduceSub, Nat.reduceMul, Nat.reduceEqDiff, Int.reduceEq, Int.reduceLT, Int.reduceLE, Int.reduceAdd, Int.reduceSub, Int.reduceNeg, Int.reduceGT, Int.reduceGE, Int.reduceNe, ne_eq, not_false_eq_true]; exact key 0 a nm _ s rfl rfl
  | con c =>
    have hn : c.name.length < 2^62 := by simp only [TNode.name] at h; omega
    have hw := fun s => tree_wrongCon_spec c s hn
    obtain ⟨nm, a, hs, arg⟩ := c
    simp only [go_sem, Nat.reduceAdd, Nat.reduceLeDiff, Nat.reduceSub, Nat.reduceMul, Nat.reduceEqDiff, Int.reduceEq, Int.reduceLT, Int.reduceLE, Int.reduceAdd, Int.reduceSub, Int.reduceNeg, Int.reduceGT, Int.reduceGE, Int.reduceNe, ne_eq, not_false_eq_true, Con.enc, Con.cells] at hw
    simp only [go_sem, Nat.reduceAdd, Nat.reduceLeDiff, Nat.reduceSub, Nat.reduceMul, Nat.reduceEqDiff, Int.reduceEq, Int.reduceLT, Int.reduceLE, Int.reduceAdd, Int.reduceSub, Int.reduceNeg, Int.reduceGT, Int.reduceGE, Int.reduceNe, ne_eq, not_false_eq_true, TNode.thing, Con.cells, hw]
    exact key _ _ _ _ _ rfl rfl
end Go.Proofs.Ytfkihppbbeonkaa

namespace Go.Proofs.Ytfkihppbbeonkaa
open Go Go.Am
set_option linter.unusedVariables false
set_option maxRecDepth 4000
theorem tree_deepPat_loop (L : List Pat) (x : Slot) (hx : x.list? = some (L.map Pat.enc)) (hl : L.length < 2^40) : ∀ (suf pre : List Pat) (n : Int) (s : St) (i : Nat), pre ++ suf = L → i = pre.length → (∀ t ∈ suf, ∀ s, cw (.f F_tree_deepPat) [t.enc] s = some (.ret (.val (.int .i64 (deepPat t))), s)) → 0 ≤ n → n < 2^40 → Pat.sizes suf < 2^40 →
    tree_deepPat_l0 (.val (.int .i64 n)) x (.val (.int .i64 L.length)) (.val (.int .i64 i)) s = some (.ret (.val (.int .i64 (deepPats suf n + 1))), s)
  | [], pre, n, s, i, h, hi, H, h0, h1, h2 => by
    subst hi
    rw [tree_deepPat_l0_eq]; simp only [go_sem, Nat.reduceAdd, Nat.reduceLeDiff, Nat.reduceSub, Nat.reduceMul, Nat.reduceEqDiff, Int.reduceEq, Int.reduceLT, Int.reduceLE, Int.reduceAdd, Int.reduceSub, Int.reduceNeg, Int.reduceGT, Int.reduceGE, Int.reduceNe, ne_eq, not_false_eq_true, end_facts (by simpa using h)]
    rw [wrap64 (by omega) (by omega)]; rfl
  | t :: suf, pre, n, s, i, h, hi, H, h0, h1, h2 => by
    subst hi
    obtain ⟨f1, f2, f3⟩ := step_facts hx h (by omega) (Pat.cells_len t) (by decide)
    have ht := deepPat_le t
    have hm := maxI_le n (deepPat t) (2^40 - 1)
    have hn := le_maxI n (deepPat t)
    simp only [Pat.sizes] at h2
    rw [tree_deepPat_l0_eq]; simp only [go_sem, Nat.reduceAdd, Nat.reduceLeDiff, Nat.reduceSub, Nat.reduceMul, Nat.reduceEqDiff, Int.reduceEq, Int.reduceLT, Int.reduceLE, Int.reduceAdd, Int.reduceSub, Int.reduceNeg, Int.reduceGT, Int.reduceGE, Int.reduceNe, ne_eq, not_false_eq_true, f1, f2, f3, H t (List.mem_cons_self)]
    exact tree_deepPat_loop L x hx hl suf (pre ++ [t]) _ s _ (by simpa using h) (by simp) (fun u hu => H u (List.mem_cons_of_mem _ hu)) (by omega) (by omega) (by omega)
theorem tree_deepPat_spec : ∀ (m : Nat) (t : Pat) (s : St), t.size ≤ m → t.size < 2^40 → cw (.f F_tree_deepPat) [t.enc] s = some (.ret (.val (.int .i64 (deepPat t))), s)
  | 0, .mk _ _ _ _ _ _, _, h, _ => by simp only [Pat.size] at h; omega
  | m + 1, .mk k a nm n l nl, s, h, h' => by
    simp only [Pat.size] at h h'
    have hl := Pat.len_sizes l
    rw [tree_deepPat_eq]; simp only [go_sem, Nat.reduceAdd, Nat.reduceLeDiff, Nat.reduceSub, Nat.reduceMul, Nat.reduceEqDiff, Int.reduceEq, Int.reduceLT, Int.reduceLE, Int.reduceAdd, Int.reduceSub, Int.reduceNeg, Int.reduceGT, Int.reduceGE, Int.reduceNe, ne_eq, not_false_eq_true, Pat.enc]
    exact tree_deepPat_loop l _ (by simp only [go_sem, Nat.reduceAdd, Nat.reduceLeDiff, Nat.reduceSub, Nat.reduceMul, Nat.reduceEqDiff, Int.reduceEq, Int.reduceLT, Int.reduceLE, Int.reduceAdd, Int.reduceSub, Int.reduceNeg, Int.reduceGT, Int.reduceGE, Int.reduceNe, ne_eq, not_false_eq_true]) (by omega) l [] 0 s 0 rfl rfl (fun u hu s => by have := Pat.mem_sizes hu; exact tree_deepPat_spec m u s (by omega) (by omega)) (by omega) (by omega) (by omega)
end Go.Proofs.Ytfkihppbbeonkaa

namespace Go.Proofs.Ytfkihppbbeonkaa
open Go Go.Am
set_option linter.unusedVariables false
set_option maxRecDepth 4000
section
variable {σ : Type} (step : TNode → σ → σ × Bool)
def walk : List TNode → σ → σ × Bool
  | [], st => (st, true)
  | n :: l, st => bif (step n st).2 then walk l (step n st).1 else step n st
theorem walk_app (a b : List TNode) (st : σ) : walk step (a ++ b) st = bif (walk step a st).2 then walk step b (walk step a st).1 else walk step a st := by
  induction a generalizing st with
  | nil => rfl
  | cons n a ih =>
    simp only [List.cons_append, walk]
    cases h : (step n st).2
    · simp only [cond_false, h]
    · simp only [cond_true]; exact ih _
variable (R : σ × Bool → St → Prop) (P : TNode → Prop) (loc : Nat)
def YOK : Prop := ∀ nd r st s, P nd → R (st, true) s → ∃ s', cw (.y loc) [nd.thing r] s = some (.ret (.val (.bool (step nd st).2)), s') ∧ R (step nd st) s'
def WOK (f : Nat) (args : List AV) (l : List TNode) : Prop := (∀ n ∈ l, P n) → ∀ st s, R (st, true) s → ∃ s', cw (.f f) args s = some (.ret (.val (.bool (walk step l st).2)), s') ∧ R (walk step l st) s'
abbrev wk : AV := .agg [.yld loc]
variable {step} {R} {P} {loc}
theorem on_true {st : σ × Bool} {s' : St} (hb : st.2 = true) (h : R st s') : R (st.1, true) s' := by rw [← hb]; exact h
theorem walker_pats_loop (hY : YOK step R P loc) (t : Pat) (r : List AV) (hl : t.kids.length < 2^40) : ∀ (suf pre : List Pat) (st : σ) (s : St) (i : Nat), pre ++ suf = t.kids → i = pre.length → (∀ u ∈ suf, ∀ r, WOK step R P F_tree_walker_pats [wk loc, .cp (u.cells ++ r)] (nodesPat u)) → (∀ n ∈ nodesPats suf, P n) → R (st, true) s →
    ∃ s', tree_walker_pats_l0 (.val (.cp (t.cells ++ r))) [.val (.yld loc)] (.val (.int .i64 t.kids.length)) (.val (.int .i64 i)) s = some (.ret (.val (.bool (walk step (nodesPats suf) st).2)), s') ∧ R (walk step (nodesPats suf) st) s'
  | [], pre, st, s, i, h, hi, H, hP, hR => by
    subst hi
    rw [tree_walker_pats_l0_eq]; simp only [go_sem, Nat.reduceAdd, Nat.reduceLeDiff, Nat.reduceSub, Nat.reduceMul, Nat.reduceEqDiff, Int.reduceEq, Int.reduceLT, Int.reduceLE, Int.reduceAdd, Int.reduceSub, Int.reduceNeg, Int.reduceGT, Int.reduceGE, Int.reduceNe, ne_eq, not_false_eq_true, end_facts (by simpa using h), nodesPats, walk]
    exact ⟨s, rfl, hR⟩
  | u :: suf, pre, st, s, i, h, hi, H, hP, hR => by
    subst hi
    obtain ⟨f1, f2, f3⟩ := step_facts (x := .val (encS t.kb (t.kids.map Pat.enc))) (list?_encS _ _) h (by omega) (Pat.cells_len u) (by decide)
    simp only [nodesPats] at hP ⊢
    obtain ⟨s1, e1, g1⟩ := H u (List.mem_cons_self) [] (fun n hn => hP n (List.mem_append_left _ hn)) st s hR
    rw [tree_walker_pats_l0_eq]
    rw [walk_app]
    cases hb : (walk step (nodesPat u) st).2 with
    | false =>
      rw [hb] at e1
      simp only [go_sem, Nat.reduceAdd, Nat.reduceLeDiff, Nat.reduceSub, Nat.reduceMul, Nat.reduceEqDiff, Int.reduceEq, Int.reduceLT, Int.reduceLE, Int.reduceAdd, Int.reduceSub, Int.reduceNeg, Int.reduceGT, Int.reduceGE, Int.reduceNe, ne_eq, not_false_eq_true, Pat.cells_eq, f1] at e1 f2 ⊢
      simp only [go_sem, Nat.reduceAdd, Nat.reduceLeDiff, Nat.reduceSub, Nat.reduceMul, Nat.reduceEqDiff, Int.reduceEq, Int.reduceLT, Int.reduceLE, Int.reduceAdd, Int.reduceSub, Int.reduceNeg, Int.reduceGT, Int.reduceGE, Int.reduceNe, ne_eq, not_false_eq_true, f2, e1, hb]
      exact ⟨s1, rfl, g1⟩
    | true =>
      rw [hb] at e1
      obtain ⟨s2, e2, g2⟩ := walker_pats_loop hY t r hl suf (pre ++ [u]) (walk step (nodesPat u) st).1 s1 (pre.length + 1) (by simpa using h) (by simp) (fun w hw => H w (List.mem_cons_of_mem _ hw)) (fun n hn => hP n (List.mem_append_right _ hn)) (on_true hb g1)
      refine ⟨s2, ?_, g2⟩
      rw [cond_true, ← e2]
      simp only [go_sem, Nat.reduceAdd, Nat.reduceLeDiff, Nat.reduceSub, Nat.reduceMul, Nat.reduceEqDiff, Int.reduceEq, Int.reduceLT, Int.reduceLE, Int.reduceAdd, Int.reduceSub, Int.reduceNeg, Int.reduceGT, Int.reduceGE, Int.reduceNe, ne_eq, not_false_eq_true, Pat.cells_eq, f1] at e1 f2 ⊢
      simp only [go_sem, Nat.reduceAdd, Nat.reduceLeDiff, Nat.reduceSub, Nat.reduceMul, Nat.reduceEqDiff, Int.reduceEq, Int.reduceLT, Int.reduceLE, Int.reduceAdd, Int.reduceSub, Int.reduceNeg, Int.reduceGT, Int.reduceGE, Int.reduceNe, ne_eq, not_false_eq_true, f2, e1, f3]
theorem walker_pats_spec (hY : YOK step R P loc) : ∀ (m : Nat) (t : Pat) (r : List AV), t.size ≤ m → t.size < 2^40 → WOK step R P F_tree_walker_pats [wk loc, .cp (t.cells ++ r)] (nodesPat t)
  | 0, .mk _ _ _ _ _ _, _, h, _ => by simp only [Pat.size] at h; omega
  | m + 1, .mk k a nm n l nl, r, h, h' => fun hP st s hR => by
    simp only [Pat.size] at h h'
    have hl := Pat.len_sizes l
    simp only [nodesPat] at hP ⊢
    obtain ⟨s1, e1, g1⟩ := hY (.pat (.mk k a nm n l nl)) r st s (hP _ (List.mem_cons_self)) hR
    rw [tree_walker_pats_eq]
    simp only [walk]
    cases hb : (step (.pat (.mk k a nm n l nl)) st).2 with
    | false =>
      rw [hb] at e1
      simp only [go_sem, Nat.reduceAdd, Nat.reduceLeDiff, Nat.reduceSub, Nat.reduceMul, Nat.reduceEqDiff, Int.reduceEq, Int.reduceLT, Int.reduceLE, Int.reduceAdd, Int.reduceSub, Int.reduceNeg, Int.reduceGT, Int.reduceGE, Int.reduceNe, ne_eq, not_false_eq_true, TNode.thing, Pat.at_] at e1 ⊢
      simp only [go_sem, Nat.reduceAdd, Nat.reduceLeDiff, Nat.reduceSub, Nat.reduceMul, Nat.reduceEqDiff, Int.reduceEq, Int.reduceLT, Int.reduceLE, Int.reduceAdd, Int.reduceSub, Int.reduceNeg, Int.reduceGT, Int.reduceGE, Int.reduceNe, ne_eq, not_false_eq_true, e1, hb]
      exact ⟨s1, rfl, g1⟩
    | true =>
      rw [hb] at e1
      obtain ⟨s2, e2, g2⟩ := walker_pats_loop hY (.mk k a nm n l nl) r (by simp only [Pat.kids]; omega) l [] (step (.pat (.mk k a nm n l nl)) st).1 s1 0 rfl rfl (fun u hu r => by have := Pat.mem_sizes hu; exact walker_pats_spec hY m u r (by omega) (by omega)) (fun n hn => hP n (List.mem_cons_of_mem _ hn)) (on_true hb g1)
      refine ⟨s2, ?_, g2⟩
      rw [cond_true, ← e2]
      simp only [go_sem, Nat.reduceAdd, Nat.reduceLeDiff, Nat.reduceSub, Nat.reduceMul, Nat.reduceEqDiff, Int.reduceEq, Int.reduceLT, Int.reduceLE, Int.reduceAdd, Int.reduceSub, Int.reduceNeg, Int.reduceGT, Int.reduceGE, Int.reduceNe, ne_eq, not_false_eq_true, TNode.thing, Pat.at_] at e1 ⊢
      simp only [go_sem, Nat.reduceAdd, Nat.reduceLeDiff, Nat.reduceSub, Nat.reduceMul, Nat.reduceEqDiff, Int.reduceEq, Int.reduceLT, Int.reduceLE, Int.reduceAdd, Int.reduceSub, Int.reduceNeg, Int.reduceGT, Int.reduceGE, Int.reduceNe, ne_eq, not_false_eq_true, e1, Pat.kids]
      rfl
end
end Go.Proofs.Ytfkihppbbeonkaa

namespace Go.Am
open Go
/-- a state in which a shared variable stands at L's end -/
def lay0 (L : List Obj) (cs : List Slot) (g : List Obj) (T : List Nat) : St := ⟨L ++ (.var cs :: g), T⟩
/-- .. and a loop further on -/
def lay (L : List Obj) (cs : List Slot) (g : List Obj) (o : Obj) (a : List Obj) (T : List Nat) : St := ⟨L ++ (.var cs :: (g ++ (o :: a))), T⟩
def reL (st : LSt) (p : Option AExit) : Obj → Obj
  | .loop _ _ f e ps a b => .loop st p f e ps a b
  | o => o
def isReady : Obj → Bool
  | .loop .ready none _ _ _ _ _ => true
  | _ => false
theorem isReady_of {o : Obj} (h : isReady o = true) : ∃ f e ps a b, o = .loop .ready none f e ps a b := by
  cases o with
  | loop st p f e ps a b => cases st <;> cases p <;> first | exact ⟨f, e, ps, a, b, rfl⟩ | cases h
  | _ => cases h
section
variable (L : List Obj) (cs cs' : List Slot) (g a : List Obj) (o : Obj) (T : List Nat) (t : TI) (p : Option AExit) (st : LSt)
@[go_sem] theorem ldV_lay0 : ldV t false (lay0 L cs g T) (.val (.vp L.length 0)) = ofSlots t (cs.take t.size) := by
  simp [ldV, lay0]
@[go_sem] theorem ldV_lay : ldV t false (lay L cs g o a T) (.val (.vp L.length 0)) = ofSlots t (cs.take t.size) := ldV_lay0 ..
variable {cs cs'} in
@[go_sem] theorem stV_lay0 (h : cs'.length = cs.length) : stV (lay0 L cs g T) (.val (.vp L.length 0)) cs' = some (lay0 L cs' g T) := by
  simp [stV, lay0, putAt, h]
variable {cs cs'} in
@[go_sem] theorem stV_lay (h : cs'.length = cs.length) : stV (lay L cs g o a T) (.val (.vp L.length 0)) cs' = some (lay L cs' g o a T) := stV_lay0 _ _ _ h
theorem lay_at : (lay L cs g o a T).locs[L.length + 1 + g.length]? = some o := by
  simp only [lay]
  rw [List.getElem?_append_right (by omega), show L.length + 1 + g.length - L.length = g.length + 1 by omega, List.getElem?_cons_succ, List.getElem?_append_right (by omega)]
  simp
theorem lay_set (o' : Obj) : (lay L cs g o a T).locs.set (L.length + 1 + g.length) o' = L ++ (.var cs :: (g ++ (o' :: a))) := by
  simp only [lay]
  rw [List.set_append_right _ _ (by omega), show L.length + 1 + g.length - L.length = g.length + 1 by omega, List.set_cons_succ, List.set_append_right _ _ (by omega)]
  simp
variable {o} in
@[go_sem] theorem beginL_lay (h : isReady o = true) : beginL (L.length + 1 + g.length) (lay L cs g o a T) = some (lay L cs g (reL .busy none o) a T) := by
  obtain ⟨f, e, ps, x, y, rfl⟩ := isReady_of h
  unfold beginL
  rw [lay_at]
  simp only [lay_set]; rfl
variable {o} in
theorem setLoop_lay (h : isReady o = true) (q : LSt) (r : Option AExit) : setLoop (L.length + 1 + g.length) q r (lay L cs g (reL st p o) a T) = some (lay L cs g (reL q r o) a T) := by
  obtain ⟨f, e, ps, x, y, rfl⟩ := isReady_of h
  unfold setLoop
  rw [lay_at]
  simp only [reL, lay_set]; rfl
variable {o} in
theorem reL_ready (h : isReady o = true) : reL .ready none o = o := by
  obtain ⟨f, e, ps, x, y, rfl⟩ := isReady_of h
  rfl
variable {o} in
theorem endX_lay (h : isReady o = true) (hs : st ≠ .busy) (kn kr : St → Res) (ke : Nat → St → Res) : endX (L.length + 1 + g.length) (lay L cs g (reL st p o) a T) kn kr ke = pendX p kn kr ke (lay L cs g (reL .exhausted p o) a T) := by
  have e1 := setLoop_lay L cs g a T p st h .exhausted p
  obtain ⟨f, e, ps, x, y, rfl⟩ := isReady_of h
  simp only [reL] at e1 ⊢
  unfold endX
  rw [lay_at]
  cases st <;> first | (exact absurd rfl hs) | (simp only [e1]; rfl)
theorem lay_len : (lay0 L cs g T).locs.length = L.length + 1 + g.length := by simp [lay0]; omega
theorem lay_add : (lay0 L cs g T).addLoc o = lay L cs g o [] T := by simp [lay0, lay, St.addLoc]
end
theorem addVar (s : St) (cs : List Slot) : s.addLoc (.var cs) = lay0 s.locs cs [] s.toks := rfl
theorem Grew.lay0 {s : St} (cs : List Slot) (g : List Obj) (b : List Nat) : Grew s (lay0 s.locs cs g (s.toks ++ b)) := ⟨⟨_, rfl⟩, ⟨b, rfl⟩⟩
theorem Grew.lay {s : St} (cs : List Slot) (g : List Obj) (o : Obj) (a : List Obj) (b : List Nat) : Grew s (lay s.locs cs g o a (s.toks ++ b)) := ⟨⟨_, rfl⟩, ⟨b, rfl⟩⟩
theorem Grew.layE {s : St} (cs : List Slot) (g : List Obj) (o : Obj) (a : List Obj) : Grew s (Am.lay s.locs cs g o a s.toks) := ⟨⟨_, rfl⟩, ⟨[], by simp [Am.lay]⟩⟩
theorem Grew.of_lay0 {L : List Obj} {cs : List Slot} {T : List Nat} {s : St} (h : Grew (Am.lay0 L cs [] T) s) : ∃ g b, s = Am.lay0 L cs g (T ++ b) := by
  obtain ⟨⟨a, ha⟩, b, hb⟩ := h
  refine ⟨a, b, ?_⟩
  obtain ⟨l, t⟩ := s
  simp only [Am.lay0] at ha hb ⊢
  rw [ha, hb]; simp
end Go.Am
namespace Go.Proofs.Ytfkihppbbeonkaa
open Go Go.Am
set_option linter.unusedVariables false
set_option maxRecDepth 4000
/-! ### counting -/
def cstep (most : Int) (n : TNode) (k : Int) : Int × Bool := (bif n.isNode then IntKind.i64.wrap (k + 1) else k, !decide ((bif n.isNode then IntKind.i64.wrap (k + 1) else k) ≥ most))
theorem walk_count (most : Int) : ∀ (l : List TNode) (n : Nat), (n : Int) < most → n + l.length < 2^62 → walk (cstep most) l n = (if ((n + countN l : Nat) : Int) < most then (((n + countN l : Nat) : Int), true) else (most, false))
  | [], n, h, _ => by simp [walk, countN, h]
  | u :: l, n, h, hb => by
    simp only [List.length_cons] at hb
    have hw : IntKind.i64.wrap ((n : Int) + 1) = ((n + 1 : Nat) : Int) := by rw [wrap64 (by omega) (by omega)]; rfl
    simp only [walk, cstep]
    cases hu : u.isNode
    · have e : countN (u :: l) = countN l := by simp [countN, hu]
      have e2 : (!decide ((n : Int) ≥ most)) = true := by simpa using h
      simp only [cond_false, e2, cond_true, e]
      exact walk_count most l n h (by omega)
    · have e : countN (u :: l) = countN l + 1 := by simp [countN, hu]
      simp only [cond_true, hw, e]
      by_cases h2 : ((n + 1 : Nat) : Int) < most
      · have e2 : (!decide (((n + 1 : Nat) : Int) ≥ most)) = true := by simpa using h2
        rw [e2, cond_true, walk_count most l (n + 1) h2 (by omega), show n + 1 + countN l = n + (countN l + 1) by omega]
      · have e2 : (!decide (((n + 1 : Nat) : Int) ≥ most)) = false := by simpa using h2
        rw [e2, cond_false, if_neg (by omega)]
        congr 1; omega
def rstep (n : TNode) (b : TBad) : TBad × Bool := bif decide (n.bad.kind = 0) then (b, true) else (n.bad, false)
theorem walk_right : ∀ (l : List TNode) (b : TBad), walk rstep l b = bif l.all (fun n => decide (n.bad.kind = 0)) then (b, true) else (firstBad l, false)
  | [], b => rfl
  | u :: l, b => by
    simp only [walk, rstep, List.all_cons, firstBad]
    cases hu : decide (u.bad.kind = 0)
    · rfl
    · simp only [cond_true, Bool.true_and]
      exact walk_right l b
theorem firstBad_none : ∀ l : List TNode, l.all (fun n => decide (n.bad.kind = 0)) = true → firstBad l = .zero
  | [], _ => rfl
  | u :: l, h => by
    rw [List.all_cons, Bool.and_eq_true] at h
    rw [firstBad, h.1, cond_true]
    exact firstBad_none l h.2
theorem thing_box (nd : TNode) (r : List AV) : boxCells (C.ti T_thing) (.val (nd.thing r)) = some ((nd.thing r).cells.map .val) := by cases nd <;> simp only [go_sem, Nat.reduceAdd, Nat.reduceLeDiff, Nat.reduceSub, Nat.reduceMul, Nat.reduceEqDiff, Int.reduceEq, Int.reduceLT, Int.reduceLE, Int.reduceAdd, Int.reduceSub, Int.reduceNeg, Int.reduceGT, Int.reduceGE, Int.reduceNe, ne_eq, not_false_eq_true, TNode.thing]
theorem thing_put (nd : TNode) (r : List AV) (a b c d e f g h : Slot) : putAt [a, b, c, d, e, f, g, h] 0 ((nd.thing r).cells.map .val) = some ((nd.thing r).cells.map .val) := by cases nd <;> rfl
theorem thing_take (nd : TNode) (r : List AV) : aggO (C.ti T_thing) (avs (List.take 8 ((nd.thing r).cells.map .val))) = some (.val (nd.thing r)) := by cases nd <;> kernel_rfl
/-- a sequence that tells these nodes in order -/
structure SeqOK (h : AV) (nodes : List TNode) : Prop where
  ok : ∃ g l, h = .fn g l ∧ (C.ext g).isSome = false ∧ ∀ (σ : Type) (step : TNode → σ → σ × Bool) (R : σ × Bool → St → Prop) (P : TNode → Prop) (loc : Nat), YOK step R P loc → (∀ n ∈ nodes, P n) → ∀ st s, R (st, true) s →
    ∃ v s', cw (.f g) (.yld loc :: l) s = some (.ret v, s') ∧ R (walk step nodes st) s'
theorem SeqOK.range {h : AV} {nodes : List TNode} (H : SeqOK h nodes) {σ : Type} {step : TNode → σ → σ × Bool} {R : σ × Bool → St → Prop} {P : TNode → Prop} {loc : Nat} (hY : YOK step R P loc) (hP : ∀ n ∈ nodes, P n) {st : σ} {s : St} (hR : R (st, true) s) (k : St → Res) :
    ∃ s', rangeC C cw (.val h) loc s k = k s' ∧ R (walk step nodes st) s' := by
  obtain ⟨g, l, rfl, he, H⟩ := H.ok
  obtain ⟨v, s', e, g'⟩ := H σ step R P loc hY hP st s hR
  refine ⟨s', ?_, g'⟩
  unfold rangeC
  have : tgtV (.val (.fn g l)) [] = some (.f g, l) := rfl
  rw [this]
  simp only [he, cond_false, e]
  rfl
theorem tree_pattern_spec (t : Pat) (s : St) (h : t.size < 2^40) : ∃ q, cw (.f F_tree_pattern) [t.enc] s = some (.ret (.val q), s) ∧ SeqOK q (nodesPat t) := by
  refine ⟨.fn F_tree_pattern_1 [.cp t.cells], ?_, ⟨_, _, rfl, by kernel_rfl, fun σ step R P loc hY hP st s hR => ?_⟩⟩
  · rw [tree_pattern_eq]; simp only [go_sem, Nat.reduceAdd, Nat.reduceLeDiff, Nat.reduceSub, Nat.reduceMul, Nat.reduceEqDiff, Int.reduceEq, Int.reduceLT, Int.reduceLE, Int.reduceAdd, Int.reduceSub, Int.reduceNeg, Int.reduceGT, Int.reduceGE, Int.reduceNe, ne_eq, not_false_eq_true]
  · obtain ⟨s', e, g⟩ := walker_pats_spec hY t.size t [] (Nat.le_refl _) h hP st s hR
    rw [List.append_nil] at e
    rw [tree_pattern_1_eq]; simp only [go_sem, Nat.reduceAdd, Nat.reduceLeDiff, Nat.reduceSub, Nat.reduceMul, Nat.reduceEqDiff, Int.reduceEq, Int.reduceLT, Int.reduceLE, Int.reduceAdd, Int.reduceSub, Int.reduceNeg, Int.reduceGT, Int.reduceGE, Int.reduceNe, ne_eq, not_false_eq_true, e]
    exact ⟨_, s', rfl, g⟩
theorem tree_count_spec {h : AV} {nodes : List TNode} (H : SeqOK h nodes) (most : Nat) (hm : 0 < most) (hl : nodes.length < 2^61) (s : St) : Ret (cw (.f F_tree_count) [h, .int .i64 most] s) s (.int .i64 (min (countN nodes) most : Nat)) := by
  let o := tree_count_r0 (.val (.cp [.int .i64 most])) (.val (.vp s.locs.length 0))
  have ho : isReady o = true := rfl
  let R : Int × Bool → St → Prop := fun p s1 => s1 = lay s.locs [.val (.int .i64 p.1)] [] (bif p.2 then o else reL .done (some (.exit 0)) o) [] s.toks
  have hY : YOK (cstep most) R (fun _ => True) (s.locs.length + 1) := by
    rintro nd r st s1 - rfl
    simp only [cond_true]
    have b0 := lay_at s.locs [.val (.int .i64 st)] [] [] o s.toks
    rw [List.length_nil, Nat.add_zero] at b0
    rw [cw, callw_yld b0]
    rw [tree_count_r0_eq]
    have b1 := beginL_lay s.locs [.val (.int .i64 st)] [] [] s.toks ho
    have b2 : ∀ n st p q r, setLoop (s.locs.length + 1) q r (lay s.locs [.val (.int .i64 n)] [] (reL st p o) [] s.toks) = _ := fun n st p q r => setLoop_lay s.locs [.val (.int .i64 n)] [] [] s.toks p st ho q r
    simp only [List.length_nil, Nat.add_zero] at b1
    simp only [go_sem, Nat.reduceAdd, Nat.reduceLeDiff, Nat.reduceSub, Nat.reduceMul, Nat.reduceEqDiff, Int.reduceEq, Int.reduceLT, Int.reduceLE, Int.reduceAdd, Int.reduceSub, Int.reduceNeg, Int.reduceGT, Int.reduceGE, Int.reduceNe, ne_eq, not_false_eq_true, thing_box, thing_put, thing_take, b1]
    simp only [go_sem, Nat.reduceAdd, Nat.reduceLeDiff, Nat.reduceSub, Nat.reduceMul, Nat.reduceEqDiff, Int.reduceEq, Int.reduceLT, Int.reduceLE, Int.reduceAdd, Int.reduceSub, Int.reduceNeg, Int.reduceGT, Int.reduceGE, Int.reduceNe, ne_eq, not_false_eq_true, avs_cons (show (Slot.val (nd.thing r)).av = some (nd.thing r) from rfl), tree_thing_node_spec]
    have b3 : ∀ n st p v', stV (lay s.locs [.val (.int .i64 n)] [] (reL st p o) [] s.toks) (.val (.vp s.locs.length 0)) [.val v'] = _ := fun n st p v' => stV_lay s.locs [] [] (reL st p o) s.toks rfl
    cases hn : nd.isNode
    · simp only [go_sem, Nat.reduceAdd, Nat.reduceLeDiff, Nat.reduceSub, Nat.reduceMul, Nat.reduceEqDiff, Int.reduceEq, Int.reduceLT, Int.reduceLE, Int.reduceAdd, Int.reduceSub, Int.reduceNeg, Int.reduceGT, Int.reduceGE, Int.reduceNe, ne_eq, not_false_eq_true, b2, cstep, hn]
      cases hd : decide (st ≥ (most : Int))
      · simp only [go_sem, Nat.reduceAdd, Nat.reduceLeDiff, Nat.reduceSub, Nat.reduceMul, Nat.reduceEqDiff, Int.reduceEq, Int.reduceLT, Int.reduceLE, Int.reduceAdd, Int.reduceSub, Int.reduceNeg, Int.reduceGT, Int.reduceGE, Int.reduceNe, ne_eq, not_false_eq_true]; exact ⟨_, rfl, by simp only [R, Bool.not_false, cond_true, reL_ready ho]⟩
      · simp only [go_sem, Nat.reduceAdd, Nat.reduceLeDiff, Nat.reduceSub, Nat.reduceMul, Nat.reduceEqDiff, Int.reduceEq, Int.reduceLT, Int.reduceLE, Int.reduceAdd, Int.reduceSub, Int.reduceNeg, Int.reduceGT, Int.reduceGE, Int.reduceNe, ne_eq, not_false_eq_true]; exact ⟨_, rfl, by simp only [R, Bool.not_true, cond_false]⟩
    · simp only [go_sem, Nat.reduceAdd, Nat.reduceLeDiff, Nat.reduceSub, Nat.reduceMul, Nat.reduceEqDiff, Int.reduceEq, Int.reduceLT, Int.reduceLE, Int.reduceAdd, Int.reduceSub, Int.reduceNeg, Int.reduceGT, Int.reduceGE, Int.reduceNe, ne_eq, not_false_eq_true, b2, b3, cstep, hn]
      cases hd : decide (IntKind.i64.wrap (st + 1) ≥ (most : Int))
      · simp only [go_sem, Nat.reduceAdd, Nat.reduceLeDiff, Nat.reduceSub, Nat.reduceMul, Nat.reduceEqDiff, Int.reduceEq, Int.reduceLT, Int.reduceLE, Int.reduceAdd, Int.reduceSub, Int.reduceNeg, Int.reduceGT, Int.reduceGE, Int.reduceNe, ne_eq, not_false_eq_true]; exact ⟨_, rfl, by simp only [R, Bool.not_false, cond_true, reL_ready ho]⟩
      · simp only [go_sem, Nat.reduceAdd, Nat.reduceLeDiff, Nat.reduceSub, Nat.reduceMul, Nat.reduceEqDiff, Int.reduceEq, Int.reduceLT, Int.reduceLE, Int.reduceAdd, Int.reduceSub, Int.reduceNeg, Int.reduceGT, Int.reduceGE, Int.reduceNe, ne_eq, not_false_eq_true]; exact ⟨_, rfl, by simp only [R, Bool.not_true, cond_false]⟩
  rw [tree_count_eq]
  simp only [go_sem, Nat.reduceAdd, Nat.reduceLeDiff, Nat.reduceSub, Nat.reduceMul, Nat.reduceEqDiff, Int.reduceEq, Int.reduceLT, Int.reduceLE, Int.reduceAdd, Int.reduceSub, Int.reduceNeg, Int.reduceGT, Int.reduceGE, Int.reduceNe, ne_eq, not_false_eq_true, addVar, lay_len, lay_add]
  obtain ⟨s', e, g⟩ := H.range hY (fun _ _ => trivial) (st := 0) (s := lay s.locs [.val (.int .i64 0)] [] o [] s.toks) rfl (fun s_10 => endX (s.locs.length + 1) s_10 (fun s_11 => bind1 (ldV (C.ti T_int) false s_11 (.val (.vp s.locs.length 0))) fun v16 => some (.ret v16, s_11)) (fun s_12 => some (.ret (.val (.int .i64 0)), s_12)) (fun j s_13 => bif Nat.beq j 0 then (bind1 (ldV (C.ti T_int) false s_13 (.val (.vp s.locs.length 0))) fun v16_1 => some (.ret v16_1, s_13)) else none))
  refine (congrArg (fun r => Ret r s (.int .i64 (min (countN nodes) most : Nat))) (Eq.trans rfl e)).mpr ?_
  have := walk_count most nodes 0 (by omega) (by omega)
  rw [Nat.zero_add] at this
  rw [show ((0 : Nat) : Int) = 0 from rfl] at this
  rw [this] at g
  have b2 : ∀ n st p, st ≠ .busy → ∀ kn kr ke, endX (s.locs.length + 1) (lay s.locs [.val (.int .i64 n)] [] (reL st p o) [] s.toks) kn kr ke = _ := fun n st p hs kn kr ke => endX_lay s.locs [.val (.int .i64 n)] [] [] s.toks p st ho hs kn kr ke
  subst g
  by_cases hc : (countN nodes : Int) < most
  · rw [if_pos hc]
    simp only [cond_true]
    rw [← reL_ready ho, b2 _ _ _ (by intro h; cases h), show min (countN nodes) most = countN nodes by omega]
    simp only [go_sem, Nat.reduceAdd, Nat.reduceLeDiff, Nat.reduceSub, Nat.reduceMul, Nat.reduceEqDiff, Int.reduceEq, Int.reduceLT, Int.reduceLE, Int.reduceAdd, Int.reduceSub, Int.reduceNeg, Int.reduceGT, Int.reduceGE, Int.reduceNe, ne_eq, not_false_eq_true, pendX]
    exact Ret.mk (.layE _ _ _ _)
  · rw [if_neg hc]
    simp only [cond_false]
    rw [b2 _ _ _ (by intro h; cases h), show min (countN nodes) most = most by omega]
    simp only [go_sem, Nat.reduceAdd, Nat.reduceLeDiff, Nat.reduceSub, Nat.reduceMul, Nat.reduceEqDiff, Int.reduceEq, Int.reduceLT, Int.reduceLE, Int.reduceAdd, Int.reduceSub, Int.reduceNeg, Int.reduceGT, Int.reduceGE, Int.reduceNe, ne_eq, not_false_eq_true, pendX, Nat.beq]
    exact Ret.mk (.layE _ _ _ _)
/-- a function that gives a number -/
def NumOK (d : AV) (n : Int) : Prop := ∃ g l, d = .fn g l ∧ ∀ s, cw (.f g) l s = some (.ret (.val (.int .i64 n)), s)
theorem bad_take (b : TBad) : aggO (C.ti T_Bad) (avs (List.take 3 (b.cells.map .val))) = some (.val b.enc) := by kernel_rfl
theorem tree_right_spec {h d : AV} {nodes : List TNode} {n : Int} (H : SeqOK h nodes) (HD : NumOK d n) (hl : nodes.length < 2^61) (hn : ∀ nd ∈ nodes, nd.name.length < 2^40) (s : St) : Ret (cw (.f F_tree_right) [h, d] s) s (rightN nodes n).enc := by
  rw [tree_right_eq]
  obtain ⟨s1, e1, g1⟩ := tree_count_spec H 8193 (by decide) hl (s.addLoc (.var (TBad.zero.cells.map .val)))
  obtain ⟨gf, gl, rfl, hd⟩ := HD
  rw [addVar] at e1 g1
  obtain ⟨g, b, rfl⟩ := g1.of_lay0
  have e0 : s.addLoc (.var (List.map .val (C.ti T_Bad).zero)) = lay0 s.locs (TBad.zero.cells.map .val) [] s.toks := rfl
  rw [e0]
  rw [show ((8193 : Nat) : Int) = 8193 from rfl] at e1
  have hT : ∃ c, s.toks ++ b = s.toks ++ c := ⟨b, rfl⟩
  generalize s.toks ++ b = T at *
  have k1 : ∀ v : List AV, v.length = 3 → ∀ r, Ret (some (.ret (.val r), lay0 s.locs (v.map .val) g T)) s r := fun v _ r => by obtain ⟨c, rfl⟩ := hT; exact Ret.mk (.lay0 _ _ _)
  have k2 : ∀ (v : List AV) o a r, Ret (some (.ret (.val r), lay s.locs (v.map .val) g o a T)) s r := fun v o a r => by obtain ⟨c, rfl⟩ := hT; exact Ret.mk (.lay _ _ _ _ _)
  have hst0 : ∀ x y z : AV, stV (lay0 s.locs (TBad.zero.cells.map .val) g T) (.val (.vp s.locs.length 0)) [.val x, .val y, .val z] = some (lay0 s.locs ([x, y, z].map .val) g T) := fun x y z => stV_lay0 _ _ _ rfl
  have hst : ∀ (c : TBad) o x y z, stV (lay s.locs (c.cells.map .val) g o [] T) (.val (.vp s.locs.length 0)) [.val x, .val y, .val z] = some (lay s.locs ([x, y, z].map .val) g o [] T) := fun c o x y z => stV_lay _ _ _ _ _ rfl
  have hb : ∀ x y z : AV, aggO (C.ti T_Bad) (avs (List.take 3 ([x, y, z].map .val))) = some (.val (.agg [x, y, z])) := fun x y z => by kernel_rfl
  simp only [go_sem, Nat.reduceAdd, Nat.reduceLeDiff, Nat.reduceSub, Nat.reduceMul, Nat.reduceEqDiff, Int.reduceEq, Int.reduceLT, Int.reduceLE, Int.reduceAdd, Int.reduceSub, Int.reduceNeg, Int.reduceGT, Int.reduceGE, Int.reduceNe, ne_eq, not_false_eq_true, e1, avs_cons (show (Slot.val h).av = some h from rfl), hd, hst0, hb]
  have hc : decide (((min (countN nodes) 8193 : Nat) : Int) > 8192) = decide (countN nodes > 8192) := by simp only [gt_iff_lt]; congr 1; rw [eq_iff_iff]; omega
  rw [hc]
  unfold rightN
  cases decide (countN nodes > 8192) with
  | true => simp only [go_sem, Nat.reduceAdd, Nat.reduceLeDiff, Nat.reduceSub, Nat.reduceMul, Nat.reduceEqDiff, Int.reduceEq, Int.reduceLT, Int.reduceLE, Int.reduceAdd, Int.reduceSub, Int.reduceNeg, Int.reduceGT, Int.reduceGE, Int.reduceNe, ne_eq, not_false_eq_true]; exact k1 [_, _, _] rfl _
  | false =>
    cases decide (n > 100) with
    | true => simp only [go_sem, Nat.reduceAdd, Nat.reduceLeDiff, Nat.reduceSub, Nat.reduceMul, Nat.reduceEqDiff, Int.reduceEq, Int.reduceLT, Int.reduceLE, Int.reduceAdd, Int.reduceSub, Int.reduceNeg, Int.reduceGT, Int.reduceGE, Int.reduceNe, ne_eq, not_false_eq_true]; exact k1 [_, _, _] rfl _
    | false =>
      simp only [go_sem, Nat.reduceAdd, Nat.reduceLeDiff, Nat.reduceSub, Nat.reduceMul, Nat.reduceEqDiff, Int.reduceEq, Int.reduceLT, Int.reduceLE, Int.reduceAdd, Int.reduceSub, Int.reduceNeg, Int.reduceGT, Int.reduceGE, Int.reduceNe, ne_eq, not_false_eq_true, lay_len, lay_add]
      let o := tree_right_r0 (.val (.vp s.locs.length 0))
      have ho : isReady o = true := rfl
      let R : TBad × Bool → St → Prop := fun p s1 => s1 = lay s.locs (p.1.cells.map .val) g (bif p.2 then o else reL .done (some .ret) o) [] T
      have hY : YOK rstep R (fun nd => nd.name.length < 2^40) (s.locs.length + 1 + g.length) := by
        rintro nd r st s1 hP rfl
        simp only [cond_true]
        rw [cw, callw_yld (lay_at _ _ _ _ _ _), tree_right_r0_eq]
        have b1 := beginL_lay s.locs (st.cells.map .val) g [] T ho
        have b2 : ∀ (c : List AV) st p q r, setLoop (s.locs.length + 1 + g.length) q r (lay s.locs (c.map .val) g (reL st p o) [] T) = _ := fun c st p q r => setLoop_lay s.locs (c.map .val) g [] T p st ho q r
        simp only [go_sem, Nat.reduceAdd, Nat.reduceLeDiff, Nat.reduceSub, Nat.reduceMul, Nat.reduceEqDiff, Int.reduceEq, Int.reduceLT, Int.reduceLE, Int.reduceAdd, Int.reduceSub, Int.reduceNeg, Int.reduceGT, Int.reduceGE, Int.reduceNe, ne_eq, not_false_eq_true, thing_box, thing_put, thing_take, b1]
        simp only [go_sem, Nat.reduceAdd, Nat.reduceLeDiff, Nat.reduceSub, Nat.reduceMul, Nat.reduceEqDiff, Int.reduceEq, Int.reduceLT, Int.reduceLE, Int.reduceAdd, Int.reduceSub, Int.reduceNeg, Int.reduceGT, Int.reduceGE, Int.reduceNe, ne_eq, not_false_eq_true, avs_cons (show (Slot.val (nd.thing r)).av = some (nd.thing r) from rfl), tree_thing_wrong_spec _ _ _ hP]
        unfold rstep
        generalize nd.bad = bd
        obtain ⟨k, a, nm⟩ := bd
        obtain ⟨k0, a0, nm0⟩ := st
        have b3 : ∀ p x y z x' y' z', stV (lay s.locs [.val x', .val y', .val z'] g (reL .busy p o) [] T) (.val (.vp s.locs.length 0)) [.val x, .val y, .val z] = some (lay s.locs ([x, y, z].map .val) g (reL .busy p o) [] T) := fun p x y z x' y' z' => stV_lay _ _ _ _ _ rfl
        have b4 := b2 [.int .i64 k0, .int .i64 a0, .str nm0]
        have b5 := b2 [.int .i64 k, .int .i64 a, .str nm]
        simp only [List.map] at b3 b4 b5
        simp only [go_sem, Nat.reduceAdd, Nat.reduceLeDiff, Nat.reduceSub, Nat.reduceMul, Nat.reduceEqDiff, Int.reduceEq, Int.reduceLT, Int.reduceLE, Int.reduceAdd, Int.reduceSub, Int.reduceNeg, Int.reduceGT, Int.reduceGE, Int.reduceNe, ne_eq, not_false_eq_true, TBad.enc, TBad.cells, b3, b4, b5]
        cases hk : decide (k = 0)
        · simp only [go_sem, Nat.reduceAdd, Nat.reduceLeDiff, Nat.reduceSub, Nat.reduceMul, Nat.reduceEqDiff, Int.reduceEq, Int.reduceLT, Int.reduceLE, Int.reduceAdd, Int.reduceSub, Int.reduceNeg, Int.reduceGT, Int.reduceGE, Int.reduceNe, ne_eq, not_false_eq_true]; exact ⟨_, rfl, by simp only [R, cond_false]; rfl⟩
        · simp only [go_sem, Nat.reduceAdd, Nat.reduceLeDiff, Nat.reduceSub, Nat.reduceMul, Nat.reduceEqDiff, Int.reduceEq, Int.reduceLT, Int.reduceLE, Int.reduceAdd, Int.reduceSub, Int.reduceNeg, Int.reduceGT, Int.reduceGE, Int.reduceNe, ne_eq, not_false_eq_true]; exact ⟨_, rfl, by simp only [R, cond_true, reL_ready ho]; rfl⟩
      obtain ⟨s', e, gR⟩ := H.range hY hn (st := TBad.zero) (s := lay s.locs (TBad.zero.cells.map .val) g o [] T) rfl (fun s_11 =>
 endX (s.locs.length + 1 + g.length) s_11 (fun s_12 =>
 bindS (stV s_12 (.val (.vp s.locs.length 0)) [.val (.int .i64 0), .val (.int .i64 0), .val (.str [])]) fun s_15 =>
 bind1 (ldV (C.ti T_Bad) false s_15 (.val (.vp s.locs.length 0))) fun v => some (.ret v, s_15)) (fun s_13 =>
 bind1 (ldV (C.ti T_Bad) false s_13 (.val (.vp s.locs.length 0))) fun v => some (.ret v, s_13)) (fun j s_14 =>
 bif Nat.beq j 0 then (
 bindS (stV s_14 (.val (.vp s.locs.length 0)) [.val (.int .i64 0), .val (.int .i64 0), .val (.str [])]) fun s_16 =>
 bind1 (ldV (C.ti T_Bad) false s_16 (.val (.vp s.locs.length 0))) fun v => some (.ret v, s_16)) else (
(none : Res))))
      refine (congrArg (fun r => Ret r s (firstBad nodes).enc) e).mpr ?_
      have b2 : ∀ (c : List AV) st p, st ≠ .busy → ∀ kn kr ke, endX (s.locs.length + 1 + g.length) (lay s.locs (c.map .val) g (reL st p o) [] T) kn kr ke = _ := fun c st p hs kn kr ke => endX_lay s.locs (c.map .val) g [] T p st ho hs kn kr ke
      rw [walk_right] at gR
      simp only [R] at gR
      subst gR
      cases ha : nodes.all fun nd => decide (nd.bad.kind = 0)
      · simp only [cond_false]
        rw [b2 _ _ _ (by intro h; cases h)]
        simp only [go_sem, Nat.reduceAdd, Nat.reduceLeDiff, Nat.reduceSub, Nat.reduceMul, Nat.reduceEqDiff, Int.reduceEq, Int.reduceLT, Int.reduceLE, Int.reduceAdd, Int.reduceSub, Int.reduceNeg, Int.reduceGT, Int.reduceGE, Int.reduceNe, ne_eq, not_false_eq_true, pendX, bad_take]
        exact k2 _ _ _ _
      · simp only [cond_true]
        rw [← reL_ready ho, b2 _ _ _ (by intro h; cases h), firstBad_none _ ha]
        simp only [go_sem, Nat.reduceAdd, Nat.reduceLeDiff, Nat.reduceSub, Nat.reduceMul, Nat.reduceEqDiff, Int.reduceEq, Int.reduceLT, Int.reduceLE, Int.reduceAdd, Int.reduceSub, Int.reduceNeg, Int.reduceGT, Int.reduceGE, Int.reduceNe, ne_eq, not_false_eq_true, pendX, hst, hb]
        exact k2 [_, _, _] _ _ _
end Go.Proofs.Ytfkihppbbeonkaa

namespace Go.Am
open Go
def varOf (p : Pat) : List Str := bif decide (p.kind = 2) || decide (p.kind = 6) then [p.name] else []
mutual
def varsPat : Pat → List Str
  | .mk k a s n l b => varOf (.mk k a s n l b) ++ varsPats l
def varsPats : List Pat → List Str
  | [] => []
  | t :: l => varsPat t ++ varsPats l
end
theorem varOf_len (p : Pat) : (varOf p).length ≤ 1 := by unfold varOf; cases decide (p.kind = 2) <;> cases decide (p.kind = 6) <;> simp
mutual
theorem varsPat_len : ∀ t : Pat, (varsPat t).length ≤ t.size
  | .mk k a s n l b => by have h1 := varOf_len (.mk k a s n l b); have h2 := varsPats_len l; simp only [varsPat, Pat.size, List.length_append]; omega
theorem varsPats_len : ∀ l : List Pat, (varsPats l).length ≤ Pat.sizes l
  | [] => Nat.le_refl _
  | t :: l => by have h1 := varsPat_len t; have h2 := varsPats_len l; simp only [varsPats, Pat.sizes, List.length_append]; omega
end
theorem TNode.ok_name {n : TNode} (h : n.ok) : n.name.length < 2^40 := by
  cases n <;> first | exact h | exact h.1
@[go_sem] theorem fnS_val (f : FuncId) (v : AV) : fnS f [.val v] = some (.val (.fn f [v])) := id rfl
end Go.Am
namespace Go.Proofs.Ytfkihppbbeonkaa
open Go Go.Am
set_option linter.unusedVariables false
set_option maxRecDepth 4000
section
variable (R : Nat → List Str → St → Prop) (loc : Nat)
variable {R} {loc}
end
theorem tree_RightPat_spec (t : Pat) (s : St) (h : t.size < 2^26) (H : ∀ n ∈ nodesPat t, n.ok) : Ret (cw (.f F_tree_RightPat) [t.enc] s) s (rightN (nodesPat t) (deepPat t)).enc := by
  obtain ⟨q, e1, hq⟩ := tree_pattern_spec t s (by omega)
  have hlen := nodesPat_len t
  have hd : NumOK (.fn F_tree_RightPat_1 [.cp t.cells]) (deepPat t) := ⟨_, _, rfl, fun s => by
    rw [tree_RightPat_1_eq]; simp only [go_sem, Nat.reduceAdd, Nat.reduceLeDiff, Nat.reduceSub, Nat.reduceMul, Nat.reduceEqDiff, Int.reduceEq, Int.reduceLT, Int.reduceLE, Int.reduceAdd, Int.reduceSub, Int.reduceNeg, Int.reduceGT, Int.reduceGE, Int.reduceNe, ne_eq, not_false_eq_true, tree_deepPat_spec _ t s (Nat.le_refl _) (by omega)]⟩
  obtain ⟨s', e2, g2⟩ := tree_right_spec hq hd (by omega) (fun nd hn => TNode.ok_name (H nd hn)) s
  revert e2
  generalize rightN _ _ = b
  intro e2
  obtain ⟨k, a, nm⟩ := b
  rw [tree_RightPat_eq]; simp only [go_sem, Nat.reduceAdd, Nat.reduceLeDiff, Nat.reduceSub, Nat.reduceMul, Nat.reduceEqDiff, Int.reduceEq, Int.reduceLT, Int.reduceLE, Int.reduceAdd, Int.reduceSub, Int.reduceNeg, Int.reduceGT, Int.reduceGE, Int.reduceNe, ne_eq, not_false_eq_true, e1, avs_cons (show (Slot.val q).av = some q from rfl), e2, TBad.enc, TBad.cells]
  exact Ret.mk g2
end Go.Proofs.Ytfkihppbbeonkaa

namespace Go.Proofs.Ytfkihppbbeonkaa
open Go Go.Am
set_option linter.unusedVariables false
set_option maxRecDepth 4000
theorem ty_given_spec (nm : Str) (s : St) : cw (.f F_ty_given) [.str nm] s = some (.ret (.val (.tup [.int .i64 (givenB nm).1, .int .i64 (givenB nm).2.1, .bool (givenB nm).2.2])), s) := by
  rw [ty_given_eq]
  simp only [go_sem, Nat.reduceAdd, Nat.reduceLeDiff, Nat.reduceSub, Nat.reduceMul, Nat.reduceEqDiff, Int.reduceEq, Int.reduceLT, Int.reduceLE, Int.reduceAdd, Int.reduceSub, Int.reduceNeg, Int.reduceGT, Int.reduceGE, Int.reduceNe, ne_eq, not_false_eq_true, ty_given_j0_eq]
  delta givenB
  generalize decide (nm = [105, 110, 116]) = x1
  generalize decide (nm = [98, 111, 111, 108]) = x2
  generalize decide (nm = [117, 110, 105, 116]) = x3
  generalize decide (nm = [101, 120, 110]) = x4
  generalize decide (nm = [114, 101, 102]) = x5
  generalize decide (nm = [45, 62]) = x6
  generalize decide (nm = [42]) = x7
  cases x1 <;> cases x2 <;> cases x3 <;> cases x4 <;> cases x5 <;> cases x6 <;> cases x7 <;> rfl
theorem lowB_right (nm : Str) : decide ((rightN (nodesPat (.mk 2 0 nm 0 [] true)) (deepPat (.mk 2 0 nm 0 [] true))).kind = 0) = lowB nm := by
  have h1 : countN (nodesPat (.mk 2 0 nm 0 [] true)) = 1 := by rfl
  have h2 : deepPat (.mk 2 0 nm 0 [] true) = 1 := by rfl
  simp only [rightN, h1, h2]
  simp only [nodesPat, nodesPats, firstBad]
  have h3 : (TNode.pat (.mk 2 0 nm 0 [] true)).bad = mkBad (bif lowB nm then 0 else 8) 0 nm := by
    simp only [TNode.bad, TNode.wrong, TNode.at_, wrongPatB, Pat.kind, Pat.name, Pat.n, Pat.kids, Pat.at_, patLM]
    cases lowB nm <;> rfl
  rw [h3]
  cases lowB nm <;> rfl
theorem ty_low_spec (nm : Str) (s : St) (hl : nm.length < 2^40) : Ret (cw (.f F_ty_low) [.str nm] s) s (.bool (lowB nm)) := by
  obtain ⟨s1, e1, g1⟩ := tree_RightPat_spec (.mk 2 0 nm 0 [] true) s (by simp only [Pat.size, Pat.sizes]; decide) (by
    intro n hn
    simp only [nodesPat, nodesPats, List.mem_cons, List.not_mem_nil, or_false] at hn
    subst hn
    exact ⟨hl, by simp only [Pat.n]; decide, by simp only [Pat.n]; decide⟩)
  rw [← lowB_right nm]
  revert e1
  generalize rightN _ _ = b
  obtain ⟨k, a, m⟩ := b
  intro e1
  simp only [go_sem, Nat.reduceAdd, Nat.reduceLeDiff, Nat.reduceSub, Nat.reduceMul, Nat.reduceEqDiff, Int.reduceEq, Int.reduceLT, Int.reduceLE, Int.reduceAdd, Int.reduceSub, Int.reduceNeg, Int.reduceGT, Int.reduceGE, Int.reduceNe, ne_eq, not_false_eq_true, TBad.enc, TBad.cells, Pat.enc] at e1
  refine ⟨s1, ?_, g1⟩
  rw [ty_low_eq]
  simp only [go_sem, Nat.reduceAdd, Nat.reduceLeDiff, Nat.reduceSub, Nat.reduceMul, Nat.reduceEqDiff, Int.reduceEq, Int.reduceLT, Int.reduceLE, Int.reduceAdd, Int.reduceSub, Int.reduceNeg, Int.reduceGT, Int.reduceGE, Int.reduceNe, ne_eq, not_false_eq_true, e1]
theorem ty_good_spec (t : Ty) (s : St) (hl : t.name.length < 2^40) : Ret (cw (.f F_ty_good) [t.enc] s) s (.bool (goodB t)) := by
  obtain ⟨s1, e1, g1⟩ := ty_low_spec t.name s hl
  have hg := ty_given_spec t.name
  unfold goodB goodC
  rw [ty_good_eq]
  simp only [go_sem, Nat.reduceAdd, Nat.reduceLeDiff, Nat.reduceSub, Nat.reduceMul, Nat.reduceEqDiff, Int.reduceEq, Int.reduceLT, Int.reduceLE, Int.reduceAdd, Int.reduceSub, Int.reduceNeg, Int.reduceGT, Int.reduceGE, Int.reduceNe, ne_eq, not_false_eq_true, Ty.enc, Ty.cells_eq, hg, e1]
  generalize decide (t.kind = 1) = a
  generalize decide (t.kind = 2) = b
  generalize (decide (t.n = 0) && decide ((t.args.length : Int) ≥ (givenB t.name).1) && decide ((t.args.length : Int) ≤ (givenB t.name).2.1)) = c
  generalize (givenB t.name).2.2 = d
  cases a <;> cases b <;> cases c <;> cases d <;> first | exact ⟨_, rfl, g1⟩ | exact ⟨_, rfl, .refl _⟩
/-! ### is it a type, of few nodes? -/
section
variable (L V : Nat)
def visF : AV := .fn F_ty_Right_1 [.vp L 0, .vp V 0]
/-- so many nodes are left -/
def Left (m : Int) (s : St) : Prop := s.locs[L]? = some (.var [.val (.int .i64 m)]) ∧ s.locs[V]? = some (.var [.val (visF L V)])
def VisitOK (t : Ty) : Prop := ∀ m s, Left L V m s → 0 ≤ m → m < 2^40 → ∃ s' m' b, cw (.f F_ty_Right_1) [t.enc, .vp L 0, .vp V 0] s = some (.ret (.val (.bool b)), s') ∧ (b = true ↔ (t.size : Int) ≤ m ∧ allTy goodB t = true) ∧ Left L V m' s' ∧ Moves [L] [] [] s s' ∧ (b = true → m' = m - t.size) ∧ -1 ≤ m' ∧ m' ≤ m
theorem Left.grew {m : Int} {s s' : St} (h : Left L V m s) (g : Grew s s') : Left L V m s' := ⟨g.loc h.1, g.loc h.2⟩
theorem visit_loop (hne : V ≠ L) (l : List Ty) (x : Slot) (hx : x.list? = some (l.map Ty.enc)) (hl : l.length < 2^40) : ∀ (suf pre : List Ty) (m : Int) (s : St) (i : Nat), pre ++ suf = l → i = pre.length → (∀ t ∈ suf, VisitOK L V t) → Left L V m s → 0 ≤ m → m < 2^40 →
    ∃ s' m' r, slices_IndexFunc_STy_Ty_l0 x (.val (.fn F_ty_Right_1_1 [.vp V 0])) (.val (.int .i64 l.length)) (.val (.int .i64 i)) s = some (.ret (.val (.int .i64 r)), s') ∧ (r < 0 ↔ (Ty.sizes suf : Int) ≤ m ∧ allTys goodB suf = true) ∧ Left L V m' s' ∧ Moves [L] [] [] s s' ∧ (r < 0 → m' = m - Ty.sizes suf) ∧ -1 ≤ m' ∧ m' ≤ m
  | [], pre, m, s, i, h, hi, H, hL, h0, h1 => by
    subst hi
    refine ⟨s, m, -1, ?_, ?_, hL, .refl _ _ _, by simp [Ty.sizes], by omega, Int.le_refl _⟩
    · rw [slices_IndexFunc_STy_Ty_l0_eq]; simp only [go_sem, Nat.reduceAdd, Nat.reduceLeDiff, Nat.reduceSub, Nat.reduceMul, Nat.reduceEqDiff, Int.reduceEq, Int.reduceLT, Int.reduceLE, Int.reduceAdd, Int.reduceSub, Int.reduceNeg, Int.reduceGT, Int.reduceGE, Int.reduceNe, ne_eq, not_false_eq_true, end_facts (by simpa using h)]
    · simp [Ty.sizes, allTys, h0]
  | t :: suf, pre, m, s, i, h, hi, H, hL, h0, h1 => by
    subst hi
    obtain ⟨f1, f2, f3⟩ := step_facts hx h (by omega) (Ty.cells_len t) (by decide)
    obtain ⟨s1, m1, b, e1, d1, l1, v1, q1, b1, b1'⟩ := H t List.mem_cons_self m s hL h0 h1
    have e2 : cw (.f F_ty_Right_1_1) [t.enc, .vp V 0] s = some (.ret (.val (.bool (!b))), s1) := by
      rw [ty_Right_1_1_eq]
      simp only [go_sem, Nat.reduceAdd, Nat.reduceLeDiff, Nat.reduceSub, Nat.reduceMul, Nat.reduceEqDiff, Int.reduceEq, Int.reduceLT, Int.reduceLE, Int.reduceAdd, Int.reduceSub, Int.reduceNeg, Int.reduceGT, Int.reduceGE, Int.reduceNe, ne_eq, not_false_eq_true, ldV_vp hL.2, visF, e1]
    rw [slices_IndexFunc_STy_Ty_l0_eq]
    simp only [go_sem, Nat.reduceAdd, Nat.reduceLeDiff, Nat.reduceSub, Nat.reduceMul, Nat.reduceEqDiff, Int.reduceEq, Int.reduceLT, Int.reduceLE, Int.reduceAdd, Int.reduceSub, Int.reduceNeg, Int.reduceGT, Int.reduceGE, Int.reduceNe, ne_eq, not_false_eq_true, f1, f2, f3, e2]
    have hsz : Ty.sizes (t :: suf) = t.size + Ty.sizes suf := rfl
    have hall : allTys goodB (t :: suf) = (allTy goodB t && allTys goodB suf) := rfl
    cases b with
    | true =>
      have hm1 := q1 rfl
      have hd := d1.1 rfl
      obtain ⟨s2, m2, r, e3, d3, l3, v3, q3, b3, b3'⟩ := visit_loop hne l x hx hl suf (pre ++ [t]) m1 s1 (pre.length + 1) (by simpa using h) (by simp) (fun w hw => H w (List.mem_cons_of_mem _ hw)) l1 (by omega) (by omega)
      refine ⟨s2, m2, r, by simp only [go_sem, Nat.reduceAdd, Nat.reduceLeDiff, Nat.reduceSub, Nat.reduceMul, Nat.reduceEqDiff, Int.reduceEq, Int.reduceLT, Int.reduceLE, Int.reduceAdd, Int.reduceSub, Int.reduceNeg, Int.reduceGT, Int.reduceGE, Int.reduceNe, ne_eq, not_false_eq_true, e3], ?_, l3, v1.trans v3, fun hr => by rw [q3 hr, hm1, hsz]; omega, b3, by omega⟩
      rw [d3, hsz, hall, hd.2, Bool.true_and, hm1]
      constructor <;> rintro ⟨g1, g2⟩ <;> exact ⟨by omega, g2⟩
    | false =>
      refine ⟨s1, m1, pre.length, by simp only [go_sem, Nat.reduceAdd, Nat.reduceLeDiff, Nat.reduceSub, Nat.reduceMul, Nat.reduceEqDiff, Int.reduceEq, Int.reduceLT, Int.reduceLE, Int.reduceAdd, Int.reduceSub, Int.reduceNeg, Int.reduceGT, Int.reduceGE, Int.reduceNe, ne_eq, not_false_eq_true], ?_, l1, v1, fun hr => by omega, b1, b1'⟩
      constructor
      · intro hr; omega
      · rintro ⟨h2, h3⟩
        rw [hall, Bool.and_eq_true] at h3
        exact absurd (d1.2 ⟨by omega, h3.1⟩) (by simp)
theorem visit_spec (hne : V ≠ L) : ∀ (k : Nat) (t : Ty), t.size ≤ k → t.size < 2^40 → NamesTy t → VisitOK L V t
  | 0, .mk _ _ _ _ _, h, _, _ => by simp only [Ty.size] at h; omega
  | k + 1, .mk kd n nm l nl, h, h', hn => fun m s hL h0 h1 => by
    simp only [Ty.size] at h h'
    have hl := Ty.len_sizes l
    have hnm : nm.length < 2^40 := hn.name
    have hsz : (Ty.mk kd n nm l nl).size = Ty.sizes l + 1 := rfl
    have hall : allTy goodB (.mk kd n nm l nl) = (goodB (.mk kd n nm l nl) && allTys goodB l) := rfl
    have hL' : Left L V (m - 1) { s with locs := s.locs.set L (.var [.val (.int .i64 (m - 1))]) } := ⟨set_at hL.1, by rw [List.getElem?_set_ne (Ne.symm hne)]; exact hL.2⟩
    have hM' : Moves [L] [] [] s { s with locs := s.locs.set L (.var [.val (.int .i64 (m - 1))]) } := (Moves.refl _ _ _).setLoc (.inl (by simp)) _
    obtain ⟨s1, e1, g1⟩ := ty_good_spec (.mk kd n nm l nl) { s with locs := s.locs.set L (.var [.val (.int .i64 (m - 1))]) } hnm
    have HV : ∀ t ∈ l, VisitOK L V t := fun t ht => by
      have h1 := Ty.mem_sizes ht
      exact visit_spec hne k t (by omega) (by omega) (hn.arg ht)
    have w1 : IntKind.i64.wrap (m - 1) = m - 1 := wrap64 (by omega) (by omega)
    have hst := stV_vp (c := [.val (.int .i64 (m - 1))]) hL.1 (off := 0) (by simp)
    simp only [go_sem, Nat.reduceAdd, Nat.reduceLeDiff, Nat.reduceSub, Nat.reduceMul, Nat.reduceEqDiff, Int.reduceEq, Int.reduceLT, Int.reduceLE, Int.reduceAdd, Int.reduceSub, Int.reduceNeg, Int.reduceGT, Int.reduceGE, Int.reduceNe, ne_eq, not_false_eq_true] at hst
    rw [ty_Right_1_eq]
    simp only [go_sem, Nat.reduceAdd, Nat.reduceLeDiff, Nat.reduceSub, Nat.reduceMul, Nat.reduceEqDiff, Int.reduceEq, Int.reduceLT, Int.reduceLE, Int.reduceAdd, Int.reduceSub, Int.reduceNeg, Int.reduceGT, Int.reduceGE, Int.reduceNe, ne_eq, not_false_eq_true, Ty.enc] at e1
    simp only [go_sem, Nat.reduceAdd, Nat.reduceLeDiff, Nat.reduceSub, Nat.reduceMul, Nat.reduceEqDiff, Int.reduceEq, Int.reduceLT, Int.reduceLE, Int.reduceAdd, Int.reduceSub, Int.reduceNeg, Int.reduceGT, Int.reduceGE, Int.reduceNe, ne_eq, not_false_eq_true, Ty.enc, ldV_vp hL.1, w1, hst, ldV_vp hL'.1, e1]
    by_cases hm : m - 1 ≥ 0
    · rw [decide_eq_true hm]
      cases hg : goodB (.mk kd n nm l nl) with
      | false =>
        refine ⟨s1, m - 1, false, by simp only [go_sem, Nat.reduceAdd, Nat.reduceLeDiff, Nat.reduceSub, Nat.reduceMul, Nat.reduceEqDiff, Int.reduceEq, Int.reduceLT, Int.reduceLE, Int.reduceAdd, Int.reduceSub, Int.reduceNeg, Int.reduceGT, Int.reduceGE, Int.reduceNe, ne_eq, not_false_eq_true], ?_, hL'.grew _ _ g1, hM'.trans (.grew _ _ g1), by simp, by omega, by omega⟩
        simp [hall, hg]
      | true =>
        obtain ⟨s2, m2, r, e3, d3, l3, v3, q3, b3, b3'⟩ := visit_loop L V hne l (.val (encS nl (l.map Ty.enc))) (list?_encS _ _) (by omega) l [] (m - 1) s1 0 rfl rfl HV (hL'.grew _ _ g1) hm (by omega)
        have e4 : cw (.f F_slices_ContainsFunc_STy_Ty) [encS nl (l.map Ty.enc), .fn F_ty_Right_1_1 [.vp V 0]] s1 = some (.ret (.val (.bool (decide (r ≥ 0)))), s2) := by
          rw [slices_ContainsFunc_STy_Ty_eq]
          have : cw (.f F_slices_IndexFunc_STy_Ty) [encS nl (l.map Ty.enc), .fn F_ty_Right_1_1 [.vp V 0]] s1 = some (.ret (.val (.int .i64 r)), s2) := by
            rw [slices_IndexFunc_STy_Ty_eq]; simp only [go_sem, Nat.reduceAdd, Nat.reduceLeDiff, Nat.reduceSub, Nat.reduceMul, Nat.reduceEqDiff, Int.reduceEq, Int.reduceLT, Int.reduceLE, Int.reduceAdd, Int.reduceSub, Int.reduceNeg, Int.reduceGT, Int.reduceGE, Int.reduceNe, ne_eq, not_false_eq_true]
            exact e3
          simp only [go_sem, Nat.reduceAdd, Nat.reduceLeDiff, Nat.reduceSub, Nat.reduceMul, Nat.reduceEqDiff, Int.reduceEq, Int.reduceLT, Int.reduceLE, Int.reduceAdd, Int.reduceSub, Int.reduceNeg, Int.reduceGT, Int.reduceGE, Int.reduceNe, ne_eq, not_false_eq_true, this]
        refine ⟨s2, m2, !decide (r ≥ 0), by simp only [go_sem, Nat.reduceAdd, Nat.reduceLeDiff, Nat.reduceSub, Nat.reduceMul, Nat.reduceEqDiff, Int.reduceEq, Int.reduceLT, Int.reduceLE, Int.reduceAdd, Int.reduceSub, Int.reduceNeg, Int.reduceGT, Int.reduceGE, Int.reduceNe, ne_eq, not_false_eq_true, e4], ?_, l3, (hM'.trans (.grew _ _ g1)).trans v3, fun hr => ?_, b3, by omega⟩
        · rw [hsz, hall, hg, Bool.true_and]
          simp only [Bool.not_eq_true', decide_eq_false_iff_not]
          constructor
          · intro hr
            have := d3.1 (by omega)
            exact ⟨by omega, this.2⟩
          · rintro ⟨g2, g3⟩
            have := d3.2 ⟨by omega, g3⟩
            omega
        · simp only [Bool.not_eq_true', decide_eq_false_iff_not] at hr
          rw [q3 (by omega), hsz]; omega
    · rw [decide_eq_false hm]
      refine ⟨_, m - 1, false, by simp only [go_sem, Nat.reduceAdd, Nat.reduceLeDiff, Nat.reduceSub, Nat.reduceMul, Nat.reduceEqDiff, Int.reduceEq, Int.reduceLT, Int.reduceLE, Int.reduceAdd, Int.reduceSub, Int.reduceNeg, Int.reduceGT, Int.reduceGE, Int.reduceNe, ne_eq, not_false_eq_true], ?_, hL', hM', by simp, by omega, by omega⟩
      constructor
      · intro h; cases h
      · rintro ⟨g1, _⟩; omega
end
theorem ty_Right_spec (t : Ty) (s : St) (h : t.size < 2^40) (hn : NamesTy t) : Ret (cw (.f F_ty_Right) [t.enc] s) s (.bool (rightTyB t)) := by
  obtain ⟨s', m', b, e1, d1, -, v1, -⟩ := visit_spec s.locs.length (s.locs.length + 1) (by omega) t.size t (Nat.le_refl _) h hn 256 (St.addLoc (St.addLoc s (.var [.val (.int .i64 256)])) (.var [.val (visF s.locs.length (s.locs.length + 1))]))
    ⟨by simp [St.addLoc], by simp [St.addLoc]⟩ (by decide) (by decide)
  have hb : b = rightTyB t := by
    unfold rightTyB
    rw [Bool.eq_iff_iff, d1]
    simp only [Bool.and_eq_true, decide_eq_true_eq]
    constructor <;> rintro ⟨g1, g2⟩ <;> exact ⟨by omega, g2⟩
  subst hb
  rw [ty_Right_eq]
  have e4 : ldV (C.ti T_26) false (St.addLoc (St.addLoc s (.var [.val (.int .i64 256)])) (.var [.val (visF s.locs.length (s.locs.length + 1))])) (.val (.vp (s.locs.length + 1) 0)) = some (.val (visF s.locs.length (s.locs.length + 1))) := by
    have := at_addLoc (St.addLoc s (.var [.val (.int .i64 256)])) (.var [.val (visF s.locs.length (s.locs.length + 1))])
    rw [len_addLoc] at this
    rw [ldV_vp this]; simp only [go_sem, Nat.reduceAdd, Nat.reduceLeDiff, Nat.reduceSub, Nat.reduceMul, Nat.reduceEqDiff, Int.reduceEq, Int.reduceLT, Int.reduceLE, Int.reduceAdd, Int.reduceSub, Int.reduceNeg, Int.reduceGT, Int.reduceGE, Int.reduceNe, ne_eq, not_false_eq_true]
  simp only [visF] at e1 e4
  simp only [go_sem, Nat.reduceAdd, Nat.reduceLeDiff, Nat.reduceSub, Nat.reduceMul, Nat.reduceEqDiff, Int.reduceEq, Int.reduceLT, Int.reduceLE, Int.reduceAdd, Int.reduceSub, Int.reduceNeg, Int.reduceGT, Int.reduceGE, Int.reduceNe, ne_eq, not_false_eq_true, Ty.enc, e4, e1]
  simp only [visF] at v1
  refine ⟨s', rfl, Moves.toGrew (Moves.shrink (h' := []) (A := []) (h := []) ?_ (by simp))⟩
  refine Moves.since (A := []) (h := []) ((Moves.grew [] [] (((Grew.refl s).addLoc _).addLoc _))) v1 (fun i hi => .inr ?_) (by simp)
  simp only [List.mem_singleton] at hi; omega
/-! ### sizes; the same -/
theorem ty_Size_loop (l : List Ty) (x : Slot) (hx : x.list? = some (l.map Ty.enc)) (hl : l.length < 2^40) : ∀ (suf pre : List Ty) (n : Int) (s : St) (i : Nat), pre ++ suf = l → i = pre.length → (∀ t ∈ suf, ∀ s, cw (.f F_ty_Size) [t.enc] s = some (.ret (.val (.int .i64 t.size)), s)) → 0 ≤ n → n + Ty.sizes suf < 2^40 →
    ty_Size_l0 (.val (.int .i64 n)) x (.val (.int .i64 l.length)) (.val (.int .i64 i)) s = some (.ret (.val (.int .i64 (n + Ty.sizes suf))), s)
  | [], pre, n, s, i, h, hi, H, h0, h1 => by
    subst hi
    rw [ty_Size_l0_eq]; simp only [go_sem, Nat.reduceAdd, Nat.reduceLeDiff, Nat.reduceSub, Nat.reduceMul, Nat.reduceEqDiff, Int.reduceEq, Int.reduceLT, Int.reduceLE, Int.reduceAdd, Int.reduceSub, Int.reduceNeg, Int.reduceGT, Int.reduceGE, Int.reduceNe, ne_eq, not_false_eq_true, end_facts (by simpa using h), Ty.sizes]
    simp
  | t :: suf, pre, n, s, i, h, hi, H, h0, h1 => by
    subst hi
    obtain ⟨f1, f2, f3⟩ := step_facts hx h (by omega) (Ty.cells_len t) (by decide)
    simp only [Ty.sizes] at h1
    have e1 := H t List.mem_cons_self s
    have w1 : IntKind.i64.wrap (n + (t.size : Int)) = n + t.size := wrap64 (by omega) (by omega)
    have ih := ty_Size_loop l x hx hl suf (pre ++ [t]) (n + t.size) s (pre.length + 1) (by simpa using h) (by simp) (fun w hw => H w (List.mem_cons_of_mem _ hw)) (by omega) (by omega)
    rw [ty_Size_l0_eq]; simp only [go_sem, Nat.reduceAdd, Nat.reduceLeDiff, Nat.reduceSub, Nat.reduceMul, Nat.reduceEqDiff, Int.reduceEq, Int.reduceLT, Int.reduceLE, Int.reduceAdd, Int.reduceSub, Int.reduceNeg, Int.reduceGT, Int.reduceGE, Int.reduceNe, ne_eq, not_false_eq_true, f1, f2, f3, e1, w1, ih]
    rw [show n + (t.size : Int) + (Ty.sizes suf : Int) = n + (Ty.sizes (t :: suf) : Int) by simp only [Ty.sizes]; omega]
theorem ty_Size_spec : ∀ (k : Nat) (t : Ty) (s : St), t.size ≤ k → t.size < 2^40 → cw (.f F_ty_Size) [t.enc] s = some (.ret (.val (.int .i64 t.size)), s)
  | 0, .mk _ _ _ _ _, _, h, _ => by simp only [Ty.size] at h; omega
  | k + 1, .mk kd n nm l nl, s, h, h' => by
    simp only [Ty.size] at h h'
    have hl := Ty.len_sizes l
    have e1 := ty_Size_loop l (.val (encS nl (l.map Ty.enc))) (list?_encS _ _) (by omega) l [] 1 s 0 rfl rfl (fun t ht s => by
      have := Ty.mem_sizes ht
      exact ty_Size_spec k t s (by omega) (by omega)) (by omega) (by omega)
    rw [ty_Size_eq]
    rw [show ((0 : Nat) : Int) = 0 from rfl] at e1
    simp only [go_sem, Nat.reduceAdd, Nat.reduceLeDiff, Nat.reduceSub, Nat.reduceMul, Nat.reduceEqDiff, Int.reduceEq, Int.reduceLT, Int.reduceLE, Int.reduceAdd, Int.reduceSub, Int.reduceNeg, Int.reduceGT, Int.reduceGE, Int.reduceNe, ne_eq, not_false_eq_true, Ty.enc, e1]
    rw [show 1 + (Ty.sizes l : Int) = ((Ty.mk kd n nm l nl).size : Int) by simp only [Ty.size]; omega]
def TySameOK (t : Ty) : Prop := ∀ u s, cw (.f F_ty_Same) [t.enc, u.enc] s = some (.ret (.val (.bool (eqTy t u))), s)
theorem tySames_loop (L M : List Ty) (x y : Slot) (hx : x.list? = some (L.map Ty.enc)) (hy : y.list? = some (M.map Ty.enc)) (hl : L.length < 2^40) (he : M.length = L.length) : ∀ (suf suf' pre pre' : List Ty) (s : St) (i : Nat), pre ++ suf = L → pre' ++ suf' = M → i = pre.length → pre'.length = pre.length → (∀ t ∈ suf, TySameOK t) →
    slices_EqualFunc_STy_STy_Ty_Ty_l0 y (.val (.fn F_ty_Same [])) x (.val (.int .i64 L.length)) (.val (.int .i64 i)) s = some (.ret (.val (.bool (eqTys suf suf'))), s)
  | [], suf', pre, pre', s, i, h, g, hi, hp, H => by
    subst hi
    have : suf' = [] := by
      have h1 := congrArg List.length h
      have h2 := congrArg List.length g
      simp only [List.length_append, List.length_nil] at h1 h2
      exact List.eq_nil_of_length_eq_zero (by omega)
    subst this
    rw [slices_EqualFunc_STy_STy_Ty_Ty_l0_eq]; simp only [go_sem, Nat.reduceAdd, Nat.reduceLeDiff, Nat.reduceSub, Nat.reduceMul, Nat.reduceEqDiff, Int.reduceEq, Int.reduceLT, Int.reduceLE, Int.reduceAdd, Int.reduceSub, Int.reduceNeg, Int.reduceGT, Int.reduceGE, Int.reduceNe, ne_eq, not_false_eq_true, end_facts (by simpa using h), eqTys]
  | t :: suf, suf', pre, pre', s, i, h, g, hi, hp, H => by
    subst hi
    cases suf' with
    | nil =>
      have h1 := congrArg List.length h
      have h2 := congrArg List.length g
      simp only [List.length_append, List.length_nil, List.length_cons] at h1 h2
      omega
    | cons u suf' =>
      obtain ⟨f1, f2, f3⟩ := step_facts hx h (by omega) (Ty.cells_len t) (by decide)
      obtain ⟨-, g2, -⟩ := step_facts hy g (by omega) (Ty.cells_len u) (by decide)
      rw [hp] at g2
      have e1 := H t (List.mem_cons_self) u s
      have ih := tySames_loop L M x y hx hy hl he suf suf' (pre ++ [t]) (pre' ++ [u]) s (pre.length + 1) (by simpa using h) (by simpa using g) (by simp) (by simp [hp]) (fun w hw => H w (List.mem_cons_of_mem _ hw))
      rw [slices_EqualFunc_STy_STy_Ty_Ty_l0_eq]; simp only [go_sem, Nat.reduceAdd, Nat.reduceLeDiff, Nat.reduceSub, Nat.reduceMul, Nat.reduceEqDiff, Int.reduceEq, Int.reduceLT, Int.reduceLE, Int.reduceAdd, Int.reduceSub, Int.reduceNeg, Int.reduceGT, Int.reduceGE, Int.reduceNe, ne_eq, not_false_eq_true, f1, f2, f3, g2, e1, ih, eqTys]
      cases eqTy t u <;> rfl
theorem tySames_spec (L M : List Ty) (v w : AV) (hv : (Slot.val v).list? = some (L.map Ty.enc)) (hw : (Slot.val w).list? = some (M.map Ty.enc)) (hl : L.length < 2^40) (H : ∀ t ∈ L, TySameOK t) (s : St) : cw (.f F_slices_EqualFunc_STy_STy_Ty_Ty) [v, w, .fn F_ty_Same []] s = some (.ret (.val (.bool (eqTys L M))), s) := by
  rw [slices_EqualFunc_STy_STy_Ty_Ty_eq]; simp only [go_sem, Nat.reduceAdd, Nat.reduceLeDiff, Nat.reduceSub, Nat.reduceMul, Nat.reduceEqDiff, Int.reduceEq, Int.reduceLT, Int.reduceLE, Int.reduceAdd, Int.reduceSub, Int.reduceNeg, Int.reduceGT, Int.reduceGE, Int.reduceNe, ne_eq, not_false_eq_true, hv, hw, List.length_map]
  by_cases he : M.length = L.length
  · have h1 := tySames_loop L M (.val v) (.val w) hv hw hl he L M [] [] s 0 rfl rfl rfl rfl H
    rw [show ((0 : Nat) : Int) = 0 from rfl] at h1
    simp only [go_sem, Nat.reduceAdd, Nat.reduceLeDiff, Nat.reduceSub, Nat.reduceMul, Nat.reduceEqDiff, Int.reduceEq, Int.reduceLT, Int.reduceLE, Int.reduceAdd, Int.reduceSub, Int.reduceNeg, Int.reduceGT, Int.reduceGE, Int.reduceNe, ne_eq, not_false_eq_true, decide_eq_true (show ((L.length : Int) = M.length) by omega), h1]
  · simp only [go_sem, Nat.reduceAdd, Nat.reduceLeDiff, Nat.reduceSub, Nat.reduceMul, Nat.reduceEqDiff, Int.reduceEq, Int.reduceLT, Int.reduceLE, Int.reduceAdd, Int.reduceSub, Int.reduceNeg, Int.reduceGT, Int.reduceGE, Int.reduceNe, ne_eq, not_false_eq_true, decide_eq_false (show ¬ ((L.length : Int) = M.length) by omega), eqTys_len L M (fun h => he h.symm)]
theorem ty_Same_sp : ∀ (k : Nat) (t : Ty), t.size ≤ k → WideTy t → TySameOK t
  | 0, .mk _ _ _ _ _, h, _ => by simp only [Ty.size] at h; omega
  | k + 1, .mk kd n nm l nl, h, h' => fun u s => by
    obtain ⟨k', n', nm', l', nl'⟩ := u
    simp only [Ty.size] at h
    have hl := h'.len
    have e1 := fun s => tySames_spec l l' (encS nl (l.map Ty.enc)) (encS nl' (l'.map Ty.enc)) (list?_encS _ _) (list?_encS _ _) (by omega) (fun t ht => by
      have := Ty.mem_sizes ht
      exact ty_Same_sp k t (by omega) (h'.arg ht)) s
    rw [ty_Same_eq]
    simp only [go_sem, Nat.reduceAdd, Nat.reduceLeDiff, Nat.reduceSub, Nat.reduceMul, Nat.reduceEqDiff, Int.reduceEq, Int.reduceLT, Int.reduceLE, Int.reduceAdd, Int.reduceSub, Int.reduceNeg, Int.reduceGT, Int.reduceGE, Int.reduceNe, ne_eq, not_false_eq_true, Ty.enc, e1, eqTy]
theorem ty_Same_spec (t : Ty) (h : WideTy t) : TySameOK t := ty_Same_sp _ t (Nat.le_refl _) h
end Go.Proofs.Ytfkihppbbeonkaa

namespace Go.Proofs.Ytfkihppbbeonkaa
open Go Go.Am
set_option linter.unusedVariables false
set_option maxRecDepth 4000
/-- a list of types gathered -/
theorem tyAcc {A0 h0 h : List Nat} {s0 s : St} {x y : Slot} {A B : List Ty} (a : AccH T_Ty s0.toks.length h s x (A.map Ty.enc)) (M : Moves A0 h0 h s0 s) (hh : ∀ k ∈ h, k < s.toks.length) (hy : y.list? = some (B.map Ty.enc)) (b : A.length + B.length < 2^30) :
    ∃ x' s', appendS T_Ty (C.ti T_Ty) s x y = some (x', s') ∧ AccH T_Ty s0.toks.length h s' x' ((A ++ B).map Ty.enc) ∧ Moves A0 h0 h s0 s' ∧ s'.locs = s.locs ∧ (∀ k ∈ h, s'.toks[k]? = s.toks[k]?) ∧ (∀ k ∈ h, k < s'.toks.length) :=
  AccH.appendF a M hh hy (fun a => by rw [T_Ty_size]; exact Ty.cells_len a) (by rw [T_Ty_size]; decide) b (by rw [T_Ty_bytes]; decide)
def OwnOK (t : Ty) : Prop := ∀ s, Ret (cw (.f F_ty_own) [t.enc] s) s (ownTy t).enc
theorem ty_own_loop (t : Ty) (hl : t.args.length < 2^28) (s0 : St) (z : List Slot) (hz : z.length = 4) : ∀ (suf pre A : List Ty) (x : Slot) (s : St) (i : Nat), AccH T_Ty s0.toks.length [] s x (A.map Ty.enc) → Moves [] [] [] s0 s → pre ++ suf = t.args → i = pre.length → A.length = pre.length → (∀ t ∈ suf, OwnOK t) →
    Ret (ty_own_l0 z [.val (.int .i64 t.kind), .val (.int .i64 t.n), .val (.str t.name), x] (.val (encS t.nl (t.args.map Ty.enc))) (.val (.int .i64 t.args.length)) (.val (.int .i64 i)) s) s0 (Ty.mk t.kind t.n t.name (A ++ ownTys suf) true).enc
  | [], pre, A, x, s, i, hA, hM, h, hi, hn, H => by
    subst hi
    rw [ty_own_l0_eq]; simp only [go_sem, Nat.reduceAdd, Nat.reduceLeDiff, Nat.reduceSub, Nat.reduceMul, Nat.reduceEqDiff, Int.reduceEq, Int.reduceLT, Int.reduceLE, Int.reduceAdd, Int.reduceSub, Int.reduceNeg, Int.reduceGT, Int.reduceGE, Int.reduceNe, ne_eq, not_false_eq_true, end_facts (by simpa using h), avs_cons hA.av, ownTys, hz]
    exact ⟨_, by simp only [Ty.enc]; rw [Ty.cells_mk], hM.toGrew⟩
  | u :: suf, pre, A, x, s, i, hA, hM, h, hi, hn, H => by
    subst hi
    obtain ⟨f1, f2, f3⟩ := step_facts (x := .val (encS t.nl (t.args.map Ty.enc))) (list?_encS _ _) h (by omega) (Ty.cells_len u) (by decide)
    obtain ⟨s1, e1, g1⟩ := H u List.mem_cons_self s
    have hlen : pre.length < t.args.length := by rw [← h]; simp
    have hM1 := hM.trans (.grew [] [] g1)
    obtain ⟨x1, s2, e2, a2, m2, -, -, -⟩ := tyAcc (A0 := []) (h0 := []) (h := []) (s0 := s0) (B := [ownTy u]) (y := .full [(ownTy u).enc]) (hA.move (.grew [] [] g1)) hM1 (by simp) rfl (by simp only [List.length_singleton]; omega)
    have ih := ty_own_loop t hl s0 z hz suf (pre ++ [u]) (A ++ [ownTy u]) x1 s2 (pre.length + 1) a2 m2 (by simpa using h) (by simp) (by simp [hn]) (fun w hw => H w (List.mem_cons_of_mem _ hw))
    have c1 := a2.cellOk
    rw [ty_own_l0_eq]; simp only [go_sem, Nat.reduceAdd, Nat.reduceLeDiff, Nat.reduceSub, Nat.reduceMul, Nat.reduceEqDiff, Int.reduceEq, Int.reduceLT, Int.reduceLE, Int.reduceAdd, Int.reduceSub, Int.reduceNeg, Int.reduceGT, Int.reduceGE, Int.reduceNe, ne_eq, not_false_eq_true, f1, f2, f3, e1, e2, c1, ownTys] at ih ⊢
    exact ih
theorem ty_own_spec : ∀ (k : Nat) (t : Ty), t.size ≤ k → WideTy t → OwnOK t
  | 0, .mk _ _ _ _ _, h, _ => by simp only [Ty.size] at h; omega
  | k + 1, .mk kd n nm l nl, h, h' => fun s => by
    simp only [Ty.size] at h
    have hl := h'.len
    have e1 := ty_own_loop (.mk kd n nm l nl) (by simp only [Ty.args]; omega) s [.val (.int .i64 0), .val (.int .i64 0), .val (.str []), .val .nils] rfl l [] [] (.val .nils) s 0 (.nil _ _ _ _) (.refl _ _ _) rfl rfl rfl (fun t ht => by
      have := Ty.mem_sizes ht
      exact ty_own_spec k t (by omega) (h'.arg ht))
    rw [show ((0 : Nat) : Int) = 0 from rfl] at e1
    rw [ty_own_eq]
    simp only [go_sem, Nat.reduceAdd, Nat.reduceLeDiff, Nat.reduceSub, Nat.reduceMul, Nat.reduceEqDiff, Int.reduceEq, Int.reduceLT, Int.reduceLE, Int.reduceAdd, Int.reduceSub, Int.reduceNeg, Int.reduceGT, Int.reduceGE, Int.reduceNe, ne_eq, not_false_eq_true, Ty.enc, Ty.kind, Ty.n, Ty.name, Ty.args, Ty.nl, ownTy] at e1 ⊢
    exact e1
theorem ty_Of_loop (nm : Str) (l : List Ty) (y : Slot) (hy : y.list? = some (l.map Ty.enc)) (hl : l.length < 2^28) (s0 : St) (z : List Slot) (hz : z.length = 4) : ∀ (suf pre A : List Ty) (x : Slot) (s : St) (i : Nat), AccH T_Ty s0.toks.length [] s x (A.map Ty.enc) → Moves [] [] [] s0 s → pre ++ suf = l → i = pre.length → A.length = pre.length → (∀ t ∈ suf, OwnOK t) →
    Ret (ty_Of_l0 z [.val (.int .i64 2), .val (.int .i64 0), .val (.str nm), x] y (.val (.int .i64 l.length)) (.val (.int .i64 i)) s) s0 (Ty.mk 2 0 nm (A ++ suf.map ownTy) true).enc
  | [], pre, A, x, s, i, hA, hM, h, hi, hn, H => by
    subst hi
    rw [ty_Of_l0_eq]; simp only [go_sem, Nat.reduceAdd, Nat.reduceLeDiff, Nat.reduceSub, Nat.reduceMul, Nat.reduceEqDiff, Int.reduceEq, Int.reduceLT, Int.reduceLE, Int.reduceAdd, Int.reduceSub, Int.reduceNeg, Int.reduceGT, Int.reduceGE, Int.reduceNe, ne_eq, not_false_eq_true, end_facts (by simpa using h), avs_cons hA.av, hz]
    exact ⟨_, by simp only [Ty.enc]; rw [Ty.cells_mk], hM.toGrew⟩
  | u :: suf, pre, A, x, s, i, hA, hM, h, hi, hn, H => by
    subst hi
    obtain ⟨f1, f2, f3⟩ := step_facts hy h (by omega) (Ty.cells_len u) (by decide)
    obtain ⟨s1, e1, g1⟩ := H u List.mem_cons_self s
    have hlen : pre.length < l.length := by rw [← h]; simp
    have hM1 := hM.trans (.grew [] [] g1)
    obtain ⟨x1, s2, e2, a2, m2, -, -, -⟩ := tyAcc (A0 := []) (h0 := []) (h := []) (s0 := s0) (B := [ownTy u]) (y := .full [(ownTy u).enc]) (hA.move (.grew [] [] g1)) hM1 (by simp) rfl (by simp only [List.length_singleton]; omega)
    have ih := ty_Of_loop nm l y hy hl s0 z hz suf (pre ++ [u]) (A ++ [ownTy u]) x1 s2 (pre.length + 1) a2 m2 (by simpa using h) (by simp) (by simp [hn]) (fun w hw => H w (List.mem_cons_of_mem _ hw))
    have c1 := a2.cellOk
    rw [ty_Of_l0_eq]; simp only [go_sem, Nat.reduceAdd, Nat.reduceLeDiff, Nat.reduceSub, Nat.reduceMul, Nat.reduceEqDiff, Int.reduceEq, Int.reduceLT, Int.reduceLE, Int.reduceAdd, Int.reduceSub, Int.reduceNeg, Int.reduceGT, Int.reduceGE, Int.reduceNe, ne_eq, not_false_eq_true, f1, f2, f3, e1, e2, c1] at ih ⊢
    exact ih
theorem ty_Of_spec (nm : Str) (l : List Ty) (v : AV) (hv : (Slot.val v).list? = some (l.map Ty.enc)) (hl : l.length < 2^28) (hw : ∀ t ∈ l, WideTy t) (s : St) : Ret (cw (.f F_ty_Of) [.str nm, v] s) s (ofTy nm l).enc := by
  have e1 := ty_Of_loop nm l (.val v) hv (by omega) s [.val (.int .i64 0), .val (.int .i64 0), .val (.str []), .val .nils] rfl l [] [] (.val .nils) s 0 (.nil _ _ _ _) (.refl _ _ _) rfl rfl rfl (fun t ht => ty_own_spec _ t (Nat.le_refl _) (hw t ht))
  rw [show ((0 : Nat) : Int) = 0 from rfl] at e1
  rw [ty_Of_eq]
  simp only [go_sem, Nat.reduceAdd, Nat.reduceLeDiff, Nat.reduceSub, Nat.reduceMul, Nat.reduceEqDiff, Int.reduceEq, Int.reduceLT, Int.reduceLE, Int.reduceAdd, Int.reduceSub, Int.reduceNeg, Int.reduceGT, Int.reduceGE, Int.reduceNe, ne_eq, not_false_eq_true, Ty.enc, hv, ofTy, List.length_map] at e1 ⊢
  exact e1
theorem ty_Fn_spec (a b : Ty) (s : St) (ha : WideTy a) (hb : WideTy b) : Ret (cw (.f F_ty_Fn) [a.enc, b.enc] s) s (fnTy a b).enc := by
  obtain ⟨s1, e1, g1⟩ := ty_Of_spec [45, 62] [a, b] (.sl [a.enc, b.enc]) rfl (by simp) (by simp; exact ⟨ha, hb⟩) s
  refine ⟨s1, ?_, g1⟩
  rw [ty_Fn_eq]
  simp only [go_sem, Nat.reduceAdd, Nat.reduceLeDiff, Nat.reduceSub, Nat.reduceMul, Nat.reduceEqDiff, Int.reduceEq, Int.reduceLT, Int.reduceLE, Int.reduceAdd, Int.reduceSub, Int.reduceNeg, Int.reduceGT, Int.reduceGE, Int.reduceNe, ne_eq, not_false_eq_true, Ty.enc, fnTy, ofTy] at e1 ⊢
  simp only [go_sem, Nat.reduceAdd, Nat.reduceLeDiff, Nat.reduceSub, Nat.reduceMul, Nat.reduceEqDiff, Int.reduceEq, Int.reduceLT, Int.reduceLE, Int.reduceAdd, Int.reduceSub, Int.reduceNeg, Int.reduceGT, Int.reduceGE, Int.reduceNe, ne_eq, not_false_eq_true, e1]
/-! ### with others in the place of variables -/
section
variable {σ : Type} (to : Int → σ → Ty × σ) (g : Nat) (caps : List AV) (A : List Nat) (R : σ → List Nat → St → Prop) (P : σ → Prop)
structure ToOK : Prop where
  call : ∀ n st h s, R st h s → P (to n st).2 → ∃ s' h', cw (.f g) (.int .i64 n :: caps) s = some (.ret (.val (to n st).1.enc), s') ∧ R (to n st).2 h' s' ∧ Moves A h h' s s'
  held : ∀ st h s, R st h s → ∀ k ∈ h, k < s.toks.length
  stab : ∀ st h s s', R st h s → s'.locs = s.locs → (∀ k ∈ h, s'.toks[k]? = s.toks[k]?) → R st h s'
  mono : ∀ n st, P (to n st).2 → P st
variable {to g caps A R P}
mutual
theorem chTy_mono (H : ToOK to g caps A R P) : ∀ (t : Ty) (st : σ), P (chTy to t st).2 → P st
  | .mk k n s l b, st, h => by
    simp only [chTy] at h
    cases hk : decide (k = 1) with
    | true => rw [hk] at h; exact H.mono n st h
    | false => rw [hk] at h; exact chTys_mono H l st h
theorem chTys_mono (H : ToOK to g caps A R P) : ∀ (l : List Ty) (st : σ), P (chTys to l st).2 → P st
  | [], st, h => h
  | t :: l, st, h => by
    simp only [chTys] at h
    exact chTy_mono H t st (chTys_mono H l _ h)
end
def ChOK (to : Int → σ → Ty × σ) (g : Nat) (caps : List AV) (A : List Nat) (R : σ → List Nat → St → Prop) (P : σ → Prop) (t : Ty) : Prop :=
  ∀ st h s, R st h s → P (chTy to t st).2 → ∃ s' h', cw (.f F_ty_change) [t.enc, .fn g caps] s = some (.ret (.val (chTy to t st).1.enc), s') ∧ R (chTy to t st).2 h' s' ∧ Moves A h h' s s'
theorem ty_change_loop (H : ToOK to g caps A R P) (t : Ty) (hl : t.args.length < 2^28) (s0 : St) (h0 : List Nat) (z : List Slot) (hz : z.length = 4) : ∀ (suf pre B : List Ty) (x : Slot) (st : σ) (h : List Nat) (s : St) (i : Nat), AccH T_Ty s0.toks.length h s x (B.map Ty.enc) → Moves A h0 h s0 s → R st h s → P (chTys to suf st).2 → pre ++ suf = t.args → i = pre.length → B.length = pre.length → (∀ t ∈ suf, ChOK to g caps A R P t) →
    ∃ s' h', ty_change_l0 (.val (.fn g caps)) z [.val (.int .i64 t.kind), .val (.int .i64 t.n), .val (.str t.name), x] (.val (encS t.nl (t.args.map Ty.enc))) (.val (.int .i64 t.args.length)) (.val (.int .i64 i)) s = some (.ret (.val (Ty.mk t.kind t.n t.name (B ++ (chTys to suf st).1) true).enc), s') ∧ R (chTys to suf st).2 h' s' ∧ Moves A h0 h' s0 s'
  | [], pre, B, x, st, h, s, i, hA, hM, hR, hP, hpre, hi, hn, HC => by
    subst hi
    refine ⟨s, h, ?_, hR, hM⟩
    rw [ty_change_l0_eq]; simp only [go_sem, Nat.reduceAdd, Nat.reduceLeDiff, Nat.reduceSub, Nat.reduceMul, Nat.reduceEqDiff, Int.reduceEq, Int.reduceLT, Int.reduceLE, Int.reduceAdd, Int.reduceSub, Int.reduceNeg, Int.reduceGT, Int.reduceGE, Int.reduceNe, ne_eq, not_false_eq_true, end_facts (by simpa using hpre), avs_cons hA.av, chTys, hz]
    simp only [Ty.enc]; rw [Ty.cells_mk]
  | u :: suf, pre, B, x, st, h, s, i, hA, hM, hR, hP, hpre, hi, hn, HC => by
    subst hi
    obtain ⟨f1, f2, f3⟩ := step_facts (x := .val (encS t.nl (t.args.map Ty.enc))) (list?_encS _ _) hpre (by omega) (Ty.cells_len u) (by decide)
    have hlen : pre.length < t.args.length := by rw [← hpre]; simp
    simp only [chTys] at hP
    obtain ⟨s1, h1, e1, r1, m1⟩ := HC u List.mem_cons_self st h s hR (chTys_mono H suf _ hP)
    obtain ⟨x1, s2, e2, a2, m2, l2, t2, b2⟩ := tyAcc (B := [(chTy to u st).1]) (y := .full [(chTy to u st).1.enc]) (hA.move m1) (hM.trans m1) (H.held _ _ _ r1) rfl (by simp only [List.length_singleton]; omega)
    have r2 := H.stab _ _ _ s2 r1 l2 t2
    obtain ⟨s3, h3, e3, r3, m3⟩ := ty_change_loop H t hl s0 h0 z hz suf (pre ++ [u]) (B ++ [(chTy to u st).1]) x1 (chTy to u st).2 h1 s2 (pre.length + 1) a2 m2 r2 hP (by simpa using hpre) (by simp) (by simp [hn]) (fun w hw => HC w (List.mem_cons_of_mem _ hw))
    refine ⟨s3, h3, ?_, r3, m3⟩
    have c1 := a2.cellOk
    rw [ty_change_l0_eq]; simp only [go_sem, Nat.reduceAdd, Nat.reduceLeDiff, Nat.reduceSub, Nat.reduceMul, Nat.reduceEqDiff, Int.reduceEq, Int.reduceLT, Int.reduceLE, Int.reduceAdd, Int.reduceSub, Int.reduceNeg, Int.reduceGT, Int.reduceGE, Int.reduceNe, ne_eq, not_false_eq_true, f1, f2, f3, e1, e2, c1, chTys] at e3 ⊢
    exact e3
theorem ty_change_spec (H : ToOK to g caps A R P) : ∀ (k : Nat) (t : Ty), t.size ≤ k → WideTy t → ChOK to g caps A R P t
  | 0, .mk _ _ _ _ _, h, _ => by simp only [Ty.size] at h; omega
  | k + 1, .mk kd n nm l nl, hs, hs' => fun st h s hR hP => by
    simp only [Ty.size] at hs
    have hl := hs'.len
    simp only [chTy] at hP ⊢
    rw [ty_change_eq]
    by_cases hk : kd = 1
    · rw [decide_eq_true hk, cond_true] at hP
      obtain ⟨s1, h1, e1, r1, m1⟩ := H.call n st h s hR hP
      refine ⟨s1, h1, ?_, by rw [decide_eq_true hk]; exact r1, m1⟩
      simp only [go_sem, Nat.reduceAdd, Nat.reduceLeDiff, Nat.reduceSub, Nat.reduceMul, Nat.reduceEqDiff, Int.reduceEq, Int.reduceLT, Int.reduceLE, Int.reduceAdd, Int.reduceSub, Int.reduceNeg, Int.reduceGT, Int.reduceGE, Int.reduceNe, ne_eq, not_false_eq_true, Ty.enc, decide_eq_true hk, e1, cond_true]
    · rw [decide_eq_false hk, cond_false] at hP
      obtain ⟨s1, h1, e1, r1, m1⟩ := ty_change_loop H (.mk kd n nm l nl) (by simp only [Ty.args]; omega) s h [.val (.int .i64 0), .val (.int .i64 0), .val (.str []), .val .nils] rfl l [] [] (.val .nils) st h s 0 (.nil _ _ _ _) (.refl _ _ _) hR hP rfl rfl rfl (fun t ht => by
        have := Ty.mem_sizes ht
        exact ty_change_spec H k t (by omega) (hs'.arg ht))
      refine ⟨s1, h1, ?_, by rw [decide_eq_false hk]; exact r1, m1⟩
      rw [show ((0 : Nat) : Int) = 0 from rfl] at e1
      simp only [go_sem, Nat.reduceAdd, Nat.reduceLeDiff, Nat.reduceSub, Nat.reduceMul, Nat.reduceEqDiff, Int.reduceEq, Int.reduceLT, Int.reduceLE, Int.reduceAdd, Int.reduceSub, Int.reduceNeg, Int.reduceGT, Int.reduceGE, Int.reduceNe, ne_eq, not_false_eq_true, Ty.enc, Ty.kind, Ty.n, Ty.name, Ty.args, Ty.nl, decide_eq_false hk, cond_false] at e1 ⊢
      exact e1
end
theorem toPut_ok (l : List Ty) (v : AV) (hv : (Slot.val v).list? = some (l.map Ty.enc)) (hl : l.length < 2^40) (hs : ∀ t ∈ l, WideTy t) : ToOK (toPut l) F_ty_Put_1 [.cp [v]] [] (fun _ h _ => h = []) (fun _ => True) where
  call n st h s hR _ := by
    subst hR
    have hvl : (ofCells (C.ti T_S_Ty) (List.take (C.ti T_S_Ty).size [v])) = some v := by
      simp only [go_sem, Nat.reduceAdd, Nat.reduceLeDiff, Nat.reduceSub, Nat.reduceMul, Nat.reduceEqDiff, Int.reduceEq, Int.reduceLT, Int.reduceLE, Int.reduceAdd, Int.reduceSub, Int.reduceNeg, Int.reduceGT, Int.reduceGE, Int.reduceNe, ne_eq, not_false_eq_true]
    by_cases hn : 0 ≤ n ∧ n < l.length
    · obtain ⟨m, rfl⟩ := Int.eq_ofNat_of_zero_le hn.1
      have hm : m < l.length := by omega
      obtain ⟨s1, e1, g1⟩ := ty_own_spec _ l[m] (Nat.le_refl _) (hs _ (List.getElem_mem hm)) s
      refine ⟨s1, [], ?_, rfl, .grew _ _ g1⟩
      have hix : ixS 4 (.val v) (.val (.int .i64 (m : Int))) = some (.val (.cp l[m].cells)) := ixS_get hv (v := l[m].enc) (by simp [hm]) (Ty.cells_len _) (by decide)
      have hge : decide ((m : Int) ≥ 0) = true := decide_eq_true (by omega)
      have hlt : decide ((m : Int) < (l.length : Int)) = true := decide_eq_true (by omega)
      rw [ty_Put_1_eq]
      simp only [go_sem, Nat.reduceAdd, Nat.reduceLeDiff, Nat.reduceSub, Nat.reduceMul, Nat.reduceEqDiff, Int.reduceEq, Int.reduceLT, Int.reduceLE, Int.reduceAdd, Int.reduceSub, Int.reduceNeg, Int.reduceGT, Int.reduceGE, Int.reduceNe, ne_eq, not_false_eq_true, hge, hv, List.length_map, hlt, hix, Ty.enc] at e1 ⊢
      simp only [go_sem, Nat.reduceAdd, Nat.reduceLeDiff, Nat.reduceSub, Nat.reduceMul, Nat.reduceEqDiff, Int.reduceEq, Int.reduceLT, Int.reduceLE, Int.reduceAdd, Int.reduceSub, Int.reduceNeg, Int.reduceGT, Int.reduceGE, Int.reduceNe, ne_eq, not_false_eq_true, e1, toPut, hn, and_self, if_true]
      simp [hm]
    · refine ⟨s, [], ?_, rfl, .refl _ _ _⟩
      rw [ty_Put_1_eq]
      simp only [toPut, if_neg hn]
      by_cases h0 : n ≥ 0
      · have hlt : decide (n < (l.length : Int)) = false := decide_eq_false (by omega)
        simp only [go_sem, Nat.reduceAdd, Nat.reduceLeDiff, Nat.reduceSub, Nat.reduceMul, Nat.reduceEqDiff, Int.reduceEq, Int.reduceLT, Int.reduceLE, Int.reduceAdd, Int.reduceSub, Int.reduceNeg, Int.reduceGT, Int.reduceGE, Int.reduceNe, ne_eq, not_false_eq_true, decide_eq_true h0, hv, hlt, Ty.enc, tvar]
      · simp only [go_sem, Nat.reduceAdd, Nat.reduceLeDiff, Nat.reduceSub, Nat.reduceMul, Nat.reduceEqDiff, Int.reduceEq, Int.reduceLT, Int.reduceLE, Int.reduceAdd, Int.reduceSub, Int.reduceNeg, Int.reduceGT, Int.reduceGE, Int.reduceNe, ne_eq, not_false_eq_true, decide_eq_false h0, Ty.enc, tvar]
  held := by rintro _ _ _ rfl k hk; cases hk
  stab := by rintro _ _ _ _ rfl _ _; rfl
  mono := fun _ _ _ => trivial
theorem ty_Put_spec (t : Ty) (l : List Ty) (nl : Bool) (s : St) (ht : WideTy t) (hl : l.length < 2^40) (hs : ∀ t ∈ l, WideTy t) : Ret (cw (.f F_ty_Put) [t.enc, encS nl (l.map Ty.enc)] s) s (putTy t l).enc := by
  obtain ⟨s1, h1, e1, r1, m1⟩ := ty_change_spec (toPut_ok l (encS nl (l.map Ty.enc)) (list?_encS _ _) hl hs) _ t (Nat.le_refl _) ht () [] s rfl trivial
  subst r1
  refine ⟨s1, ?_, m1.toGrew⟩
  rw [ty_Put_eq]
  simp only [go_sem, Nat.reduceAdd, Nat.reduceLeDiff, Nat.reduceSub, Nat.reduceMul, Nat.reduceEqDiff, Int.reduceEq, Int.reduceLT, Int.reduceLE, Int.reduceAdd, Int.reduceSub, Int.reduceNeg, Int.reduceGT, Int.reduceGE, Int.reduceNe, ne_eq, not_false_eq_true, Ty.enc, putTy] at e1 ⊢
  simp only [go_sem, Nat.reduceAdd, Nat.reduceLeDiff, Nat.reduceSub, Nat.reduceMul, Nat.reduceEqDiff, Int.reduceEq, Int.reduceLT, Int.reduceLE, Int.reduceAdd, Int.reduceSub, Int.reduceNeg, Int.reduceGT, Int.reduceGE, Int.reduceNe, ne_eq, not_false_eq_true, e1]
/-! ### variables numbered as they come -/
theorem placeI_app (n m : Int) : ∀ (l : List Int) (i : Nat), placeI n (l ++ [m]) i = match placeI n l i with | some j => some j | none => if n = m then some (i + l.length) else none
  | [], i => by simp [placeI]
  | a :: l, i => by
    simp only [List.cons_append, placeI, placeI_app n m l (i + 1), List.length_cons]
    by_cases h : n = a
    · simp [h]
    · simp only [h, if_false]
      rw [show i + 1 + l.length = i + (l.length + 1) by omega]
def ekI (n : Int) : AV := .int .i64 n
def oldV (old : List Int) (n : Int) : Option Int := match placeI n old 0 with | some i => some (i : Int) | none => none
/-- the variables met, in memory -/
structure OldR (ml pl ol : Nat) (old : List Int) (h : List Nat) (s : St) : Prop where
  mp : s.locs[pl]? = some (.var [.val (.mp ml)])
  map : ∃ es c D, s.locs[ml]? = some (.map es c) ∧ MapIs ekI ekI (oldV old) es c D
  old : ∃ x, s.locs[ol]? = some (.var [x]) ∧ HeldIs T_int s x (old.map ekI) h
theorem toCanon_ok (ml pl ol : Nat) (h1 : pl ≠ ml) (h2 : pl ≠ ol) (h3 : ml ≠ ol) : ToOK toCanon F_ty_Canon_1 [.vp pl 0, .vp ol 0] [ml, ol] (OldR ml pl ol) (fun old => old.length < 2^28) where
  call n old h s hR hP := by
    obtain ⟨hmp, ⟨es, c, D, hml, hM⟩, x, hol, hx⟩ := hR
    have hlk := lookupS_map hM keyInt (kt := C.ti T_int) (et := C.ti T_int) n (isKey_int T_int_k n) hml (z := .int .i64 0) (zeroV_one T_int_good T_int_agg T_int_zero) true
    rw [ty_Canon_1_eq]
    unfold oldV at hlk
    simp only [ekI] at hlk
    cases hp : placeI n old 0 with
    | some i =>
      rw [hp] at hlk
      simp only [cond_true] at hlk
      refine ⟨s, h, ?_, ?_, .refl _ _ _⟩
      · simp only [go_sem, Nat.reduceAdd, Nat.reduceLeDiff, Nat.reduceSub, Nat.reduceMul, Nat.reduceEqDiff, Int.reduceEq, Int.reduceLT, Int.reduceLE, Int.reduceAdd, Int.reduceSub, Int.reduceNeg, Int.reduceGT, Int.reduceGE, Int.reduceNe, ne_eq, not_false_eq_true, ldV_vp hmp, hlk, toCanon, hp, tvar, Ty.enc]
      · simp only [toCanon, hp]; exact ⟨hmp, ⟨es, c, D, hml, hM⟩, x, hol, hx⟩
    | none =>
      rw [hp] at hlk
      simp only [cond_true] at hlk
      simp only [toCanon, hp, List.length_append, List.length_singleton] at hP
      have hlist := hx.list?
      obtain ⟨es', c', D', eu, hM'⟩ := updateS_map hM keyInt (kt := C.ti T_int) (et := C.ti T_int) n (isKey_int T_int_k n) hml (x := .val (.int .i64 old.length)) (v := (old.length : Int)) rfl (by rw [T_int_size]; rfl)
      simp only [ekI] at eu
      simp only [go_sem, Nat.reduceAdd, Nat.reduceLeDiff, Nat.reduceSub, Nat.reduceMul, Nat.reduceEqDiff, Int.reduceEq, Int.reduceLT, Int.reduceLE, Int.reduceAdd, Int.reduceSub, Int.reduceNeg, Int.reduceGT, Int.reduceGE, Int.reduceNe, ne_eq, not_false_eq_true, ldV_vp hmp, hlk, ldV_vp hol, hlist, List.length_map, eu]
      have hol1 : ({ s with locs := s.locs.set ml (.map es' c') } : St).locs[ol]? = some (.var [x]) := by
        show (s.locs.set ml _)[ol]? = _
        rw [List.getElem?_set_ne h3]; exact hol
      obtain ⟨x2, s2, h2', e2, a2, l2, m2⟩ := HeldIs.appendF (f := ekI) (t := C.ti T_int) (B := [n]) (y := .full [.int .i64 n]) (hx.stab (s' := { s with locs := s.locs.set ml (.map es' c') }) (fun _ _ => rfl)) rfl (fun a => by rw [T_int_size]; rfl) (by rw [T_int_size]; decide) (by simp only [List.length_singleton]; omega) (by rw [T_int_bytes]; decide)
      have c2 := a2.cellOk
      have hol2 : s2.locs[ol]? = some (.var [x]) := by rw [l2]; exact hol1
      have hst := stV_vp (c := [x2]) hol2 (off := 0) (by simp)
      simp only [go_sem, Nat.reduceAdd, Nat.reduceLeDiff, Nat.reduceSub, Nat.reduceMul, Nat.reduceEqDiff, Int.reduceEq, Int.reduceLT, Int.reduceLE, Int.reduceAdd, Int.reduceSub, Int.reduceNeg, Int.reduceGT, Int.reduceGE, Int.reduceNe, ne_eq, not_false_eq_true] at hst
      simp only [go_sem, Nat.reduceAdd, Nat.reduceLeDiff, Nat.reduceSub, Nat.reduceMul, Nat.reduceEqDiff, Int.reduceEq, Int.reduceLT, Int.reduceLE, Int.reduceAdd, Int.reduceSub, Int.reduceNeg, Int.reduceGT, Int.reduceGE, Int.reduceNe, ne_eq, not_false_eq_true, ldV_vp hol1, e2, c2, hst]
      refine ⟨_, h2', ⟨by simp only [toCanon, hp, tvar, Ty.enc, Ty.cells_mk]; rfl, ?_, ?_⟩⟩
      · simp only [toCanon, hp]
        refine ⟨?_, ⟨es', c', D', ?_, ?_⟩, x2, set_at hol2, a2.stab (fun _ _ => rfl)⟩
        · show (s2.locs.set ol _)[pl]? = _
          rw [List.getElem?_set_ne (Ne.symm h2), l2]
          show (s.locs.set ml _)[pl]? = _
          rw [List.getElem?_set_ne (Ne.symm h1)]; exact hmp
        · show (s2.locs.set ol _)[ml]? = _
          rw [List.getElem?_set_ne (Ne.symm h3), l2]
          exact set_at hml
        · have : oldV (old ++ [n]) = upd (oldV old) n (old.length : Int) := by
            funext m
            unfold oldV upd
            rw [placeI_app]
            by_cases hm : m = n
            · subst hm; simp [hp]
            · simp only [hm, if_false]
              cases placeI m old 0 <;> rfl
          rw [this]; exact hM'
      · have m0 : Moves [ml, ol] h h s { s with locs := s.locs.set ml (.map es' c') } := (Moves.refl _ _ _).setLoc (.inl (by simp)) _
        exact (m0.trans (m2.wider (by simp))).setLoc (.inl (by simp)) _
  held := by
    rintro old h s ⟨_, _, x, _, hx⟩
    exact hx.held
  stab := by
    rintro old h s s' ⟨hmp, hm, x, hol, hx⟩ hl ht
    exact ⟨by rw [hl]; exact hmp, by rw [hl]; exact hm, x, by rw [hl]; exact hol, hx.stab ht⟩
  mono := fun n old h => by
    simp only [toCanon] at h
    split at h
    · exact h
    · simp only [List.length_append, List.length_singleton] at h; omega
/-- how many variables there are at most -/
theorem chCanon_len : (∀ (t : Ty) (old : List Int), (chTy toCanon t old).2.length ≤ old.length + t.size) := by
  have both : ∀ k : Nat, (∀ (t : Ty) (old : List Int), t.size ≤ k → (chTy toCanon t old).2.length ≤ old.length + t.size) := by
    intro k
    induction k with
    | zero => rintro ⟨_, _, _, _, _⟩ _ h; simp only [Ty.size] at h; omega
    | succ k ih =>
      rintro ⟨kd, n, nm, l, nl⟩ old h
      simp only [Ty.size] at h ⊢
      simp only [chTy]
      cases decide (kd = 1) with
      | true =>
        simp only [cond_true, toCanon]
        split
        · show old.length ≤ _
          omega
        · simp only [List.length_append, List.length_singleton]; omega
      | false =>
        simp only [cond_false]
        have hl : ∀ (l : List Ty) (old : List Int), Ty.sizes l ≤ k → (chTys toCanon l old).2.length ≤ old.length + Ty.sizes l := by
          intro l
          induction l with
          | nil => intro old _; simp only [chTys, Ty.sizes]; omega
          | cons t l ihl =>
            intro old hk
            simp only [Ty.sizes] at hk ⊢
            simp only [chTys]
            have h1 := ih t old (by omega)
            have h2 := ihl (chTy toCanon t old).2 (by omega)
            omega
        have := hl l old (by omega)
        omega
  exact fun t old => both _ t old (Nat.le_refl _)
theorem ty_Canon_spec (t : Ty) (s : St) (ht : t.size < 2^28) : Ret (cw (.f F_ty_Canon) [t.enc] s) s (.tup [(canonTy t).1.enc, encS true ((canonTy t).2.map ekI)]) := by
  have hlen := chCanon_len t []
  simp only [List.length_nil] at hlen
  obtain ⟨s1, h1, e1, ⟨-, -, x, hol, hx⟩, m1⟩ := ty_change_spec (toCanon_ok s.locs.length (s.locs.length + 1) (s.locs.length + 2) (by omega) (by omega) (by omega)) _ t (Nat.le_refl _) (wide_of_size t ht) [] [] (((s.addLoc (.map [] 0)).addLoc (.var [.val (.mp s.locs.length)])).addLoc (.var [.val .nils]))
    ⟨by simp [St.addLoc], ⟨[], 0, [], by simp [St.addLoc], .nil⟩, _, by simp [St.addLoc], .inl ⟨rfl, rfl, rfl⟩⟩ (by show _ < _; omega)
  refine ⟨s1, ?_, Moves.toGrew (Moves.since (A := []) (h := []) (.grew _ _ ((((Grew.refl s).addLoc _).addLoc _).addLoc _)) m1 (fun i hi => .inr ?_) (by simp))⟩
  · rw [ty_Canon_eq]
    have e3 := avsO_cons hx.av []
    simp only [go_sem, Nat.reduceAdd, Nat.reduceLeDiff, Nat.reduceSub, Nat.reduceMul, Nat.reduceEqDiff, Int.reduceEq, Int.reduceLT, Int.reduceLE, Int.reduceAdd, Int.reduceSub, Int.reduceNeg, Int.reduceGT, Int.reduceGE, Int.reduceNe, ne_eq, not_false_eq_true, Ty.enc, canonTy] at e1 e3 ⊢
    simp only [go_sem, Nat.reduceAdd, Nat.reduceLeDiff, Nat.reduceSub, Nat.reduceMul, Nat.reduceEqDiff, Int.reduceEq, Int.reduceLT, Int.reduceLE, Int.reduceAdd, Int.reduceSub, Int.reduceNeg, Int.reduceGT, Int.reduceGE, Int.reduceNe, ne_eq, not_false_eq_true, e1, ldV_vp hol, e3]
  · simp only [List.mem_cons, List.not_mem_nil, or_false] at hi; omega
theorem ty_Vars_spec (t : Ty) (s : St) (ht : t.size < 2^28) : Ret (cw (.f F_ty_Vars) [t.enc] s) s (encS true ((canonTy t).2.map ekI)) := by
  obtain ⟨s1, e1, g1⟩ := ty_Canon_spec t s ht
  refine ⟨s1, ?_, g1⟩
  rw [ty_Vars_eq]
  simp only [go_sem, Nat.reduceAdd, Nat.reduceLeDiff, Nat.reduceSub, Nat.reduceMul, Nat.reduceEqDiff, Int.reduceEq, Int.reduceLT, Int.reduceLE, Int.reduceAdd, Int.reduceSub, Int.reduceNeg, Int.reduceGT, Int.reduceGE, Int.reduceNe, ne_eq, not_false_eq_true, Ty.enc] at e1 ⊢
  simp only [go_sem, Nat.reduceAdd, Nat.reduceLeDiff, Nat.reduceSub, Nat.reduceMul, Nat.reduceEqDiff, Int.reduceEq, Int.reduceLT, Int.reduceLE, Int.reduceAdd, Int.reduceSub, Int.reduceNeg, Int.reduceGT, Int.reduceGE, Int.reduceNe, ne_eq, not_false_eq_true, e1]
end Go.Proofs.Ytfkihppbbeonkaa

namespace Go.Proofs.Ytfkihppbbeonkaa
open Go Go.Am
set_option linter.unusedVariables false
theorem ref05_letter_spec (n : Int) (c : Bool) (s : St) : cw (.f F_ref05_letter) [.int .u8 n, .bool c] s = some (.ret (.val (.bool (letterR n c))), s) := by
  rw [ref05_letter_eq]; cases c <;> simp only [go_sem, Nat.reduceAdd, Nat.reduceLeDiff, Nat.reduceSub, Nat.reduceMul, Nat.reduceEqDiff, Int.reduceEq, Int.reduceLT, Int.reduceLE, Int.reduceAdd, Int.reduceSub, Int.reduceNeg, Int.reduceGT, Int.reduceGE, Int.reduceNe, ne_eq, not_false_eq_true] <;> rfl
theorem ref05_rest_spec (n : Int) (s : St) : cw (.f F_ref05_rest) [.int .u8 n] s = some (.ret (.val (.bool (restR n))), s) := by
  rw [ref05_rest_eq]; simp only [go_sem, Nat.reduceAdd, Nat.reduceLeDiff, Nat.reduceSub, Nat.reduceMul, Nat.reduceEqDiff, Int.reduceEq, Int.reduceLT, Int.reduceLE, Int.reduceAdd, Int.reduceSub, Int.reduceNeg, Int.reduceGT, Int.reduceGE, Int.reduceNe, ne_eq, not_false_eq_true]; rfl
theorem ref05_shaped_loop (l : Str) (pre : Str) : ∀ (suf : Str) (s : St), pre ++ suf = l → l.length < 2^62 → ref05_shaped_l0 (.val (.str l)) (.val (.int .i64 pre.length)) s = some (.ret (.val (.bool (suf.all fun c => restR c.toNat))), s) := by
  intro suf
  induction suf generalizing pre with
  | nil =>
    intro s h hl
    rw [List.append_nil] at h
    subst h
    rw [ref05_shaped_l0_eq]; simp only [lenS_str T_string_k, bind1_some, binS_lss, condS_bool]
    rw [ifR_neg (by simp)]
    rfl
  | cons c suf ih =>
    intro s h hl
    have hc : l[pre.length]? = some c := by rw [← h]; simp
    have hlt : pre.length < l.length := by rw [← h]; simp
    have := ih (pre ++ [c]) s (by simp [h]) hl
    rw [ref05_shaped_l0_eq]
    simp only [lenS_str T_string_k, bind1_some, binS_lss, condS_bool]
    rw [ifR_pos (by simpa using hlt), indexS_str T_string_k hc]
    simp only [go_sem, Nat.reduceAdd, Nat.reduceLeDiff, Nat.reduceSub, Nat.reduceMul, Nat.reduceEqDiff, Int.reduceEq, Int.reduceLT, Int.reduceLE, Int.reduceAdd, Int.reduceSub, Int.reduceNeg, Int.reduceGT, Int.reduceGE, Int.reduceNe, ne_eq, not_false_eq_true, ref05_rest_spec]
    rw [wrap64 (by omega) (by omega)]
    have e : (pre.length : Int) + 1 = ((pre ++ [c]).length : Int) := by simp
    rw [e, this]
    simp only [go_sem, Nat.reduceAdd, Nat.reduceLeDiff, Nat.reduceSub, Nat.reduceMul, Nat.reduceEqDiff, Int.reduceEq, Int.reduceLT, Int.reduceLE, Int.reduceAdd, Int.reduceSub, Int.reduceNeg, Int.reduceGT, Int.reduceGE, Int.reduceNe, ne_eq, not_false_eq_true, List.all_cons]
    cases restR c.toNat <;> rfl
theorem ref05_shaped_spec (l : Str) (c : Bool) (s : St) (hl : l.length < 2^62) : cw (.f F_ref05_shaped) [.str l, .bool c] s = some (.ret (.val (.bool (shapedR l c))), s) := by
  rw [ref05_shaped_eq]
  cases l with
  | nil => simp only [go_sem, Nat.reduceAdd, Nat.reduceLeDiff, Nat.reduceSub, Nat.reduceMul, Nat.reduceEqDiff, Int.reduceEq, Int.reduceLT, Int.reduceLE, Int.reduceAdd, Int.reduceSub, Int.reduceNeg, Int.reduceGT, Int.reduceGE, Int.reduceNe, ne_eq, not_false_eq_true]; rfl
  | cons x l =>
    have h := ref05_shaped_loop (x :: l) [x] l s rfl hl
    simp only [go_sem, Nat.reduceAdd, Nat.reduceLeDiff, Nat.reduceSub, Nat.reduceMul, Nat.reduceEqDiff, Int.reduceEq, Int.reduceLT, Int.reduceLE, Int.reduceAdd, Int.reduceSub, Int.reduceNeg, Int.reduceGT, Int.reduceGE, Int.reduceNe, ne_eq, not_false_eq_true, List.length_singleton] at h
    simp only [go_sem, Nat.reduceAdd, Nat.reduceLeDiff, Nat.reduceSub, Nat.reduceMul, Nat.reduceEqDiff, Int.reduceEq, Int.reduceLT, Int.reduceLE, Int.reduceAdd, Int.reduceSub, Int.reduceNeg, Int.reduceGT, Int.reduceGE, Int.reduceNe, ne_eq, not_false_eq_true, ref05_letter_spec, indexS_zero T_string_k (List.cons_ne_nil x l)]
    have h' : ref05_shaped_l0 (.val (.str (x :: l))) (.val (.int .i64 1)) s = some (.ret (.val (.bool (l.all fun c => restR c.toNat))), s) := h
    rw [h']
    show ifR _ _ _ = some (Out.ret (.val (.bool (!(decide (((l.length + 1 : Nat) : Int) < 1) || decide (((l.length + 1 : Nat) : Int) > 32) || !letterR (((x :: l).headD 0).toNat : Int) c) && (l.all fun c => restR c.toNat)))), s)
    generalize (decide (((l.length + 1 : Nat) : Int) < 1) || decide (((l.length + 1 : Nat) : Int) > 32) || !letterR (((x :: l).headD 0).toNat : Int) c) = b
    cases b <;> rfl
theorem ref05_Words_spec (s : St) : cw (.f F_ref05_Words) [] s = some (.ret (.full (wordsR.map .str)), s) := by
  rw [ref05_Words_eq]; simp only [go_sem, Nat.reduceAdd, Nat.reduceLeDiff, Nat.reduceSub, Nat.reduceMul, Nat.reduceEqDiff, Int.reduceEq, Int.reduceLT, Int.reduceLE, Int.reduceAdd, Int.reduceSub, Int.reduceNeg, Int.reduceGT, Int.reduceGE, Int.reduceNe, ne_eq, not_false_eq_true]; rfl
theorem ref05_among_loop (x : Str) (l : List Str) (pre : List Str) : ∀ (suf : List Str) (y : Slot) (s : St), y.list? = some (l.map .str) → pre ++ suf = l → l.length < 2^62 → ref05_among_l0 (.val (.str x)) y (.val (.int .i64 pre.length)) s = some (.ret (.val (.bool (amongR x suf))), s) := by
  intro suf
  induction suf generalizing pre with
  | nil =>
    intro y s hy h hl
    rw [List.append_nil] at h
    subst h
    rw [ref05_among_l0_eq]; simp only [go_sem, Nat.reduceAdd, Nat.reduceLeDiff, Nat.reduceSub, Nat.reduceMul, Nat.reduceEqDiff, Int.reduceEq, Int.reduceLT, Int.reduceLE, Int.reduceAdd, Int.reduceSub, Int.reduceNeg, Int.reduceGT, Int.reduceGE, Int.reduceNe, ne_eq, not_false_eq_true, hy]
    rw [ifR_neg (by simp)]
    rfl
  | cons c suf ih =>
    intro y s hy h hl
    have hc : (l.map AV.str)[pre.length]? = some (.str c) := by rw [← h]; simp
    have hlt : pre.length < l.length := by rw [← h]; simp
    have := ih (pre ++ [c]) y s hy (by simp [h]) hl
    rw [ref05_among_l0_eq]
    simp only [go_sem, Nat.reduceAdd, Nat.reduceLeDiff, Nat.reduceSub, Nat.reduceMul, Nat.reduceEqDiff, Int.reduceEq, Int.reduceLT, Int.reduceLE, Int.reduceAdd, Int.reduceSub, Int.reduceNeg, Int.reduceGT, Int.reduceGE, Int.reduceNe, ne_eq, not_false_eq_true, hy]
    rw [ifR_pos (by simpa using hlt), ixS_get (sz := 1) hy hc rfl (by decide)]
    simp only [go_sem, Nat.reduceAdd, Nat.reduceLeDiff, Nat.reduceSub, Nat.reduceMul, Nat.reduceEqDiff, Int.reduceEq, Int.reduceLT, Int.reduceLE, Int.reduceAdd, Int.reduceSub, Int.reduceNeg, Int.reduceGT, Int.reduceGE, Int.reduceNe, ne_eq, not_false_eq_true]
    rw [wrap64 (by omega) (by omega)]
    have e : (pre.length : Int) + 1 = ((pre ++ [c]).length : Int) := by simp
    rw [e, this]
    simp only [go_sem, Nat.reduceAdd, Nat.reduceLeDiff, Nat.reduceSub, Nat.reduceMul, Nat.reduceEqDiff, Int.reduceEq, Int.reduceLT, Int.reduceLE, Int.reduceAdd, Int.reduceSub, Int.reduceNeg, Int.reduceGT, Int.reduceGE, Int.reduceNe, ne_eq, not_false_eq_true, amongR, List.any_cons]
    cases decide (c = x) <;> rfl
theorem ref05_among_spec (x : Str) (l : List Str) (s : St) (hl : l.length < 2^62) (nl : Bool) : cw (.f F_ref05_among) [.str x, encS nl (l.map .str)] s = some (.ret (.val (.bool (amongR x l))), s) := by
  rw [ref05_among_eq]
  exact ref05_among_loop x l [] l _ s (by simp only [go_sem, Nat.reduceAdd, Nat.reduceLeDiff, Nat.reduceSub, Nat.reduceMul, Nat.reduceEqDiff, Int.reduceEq, Int.reduceLT, Int.reduceLE, Int.reduceAdd, Int.reduceSub, Int.reduceNeg, Int.reduceGT, Int.reduceGE, Int.reduceNe, ne_eq, not_false_eq_true]) rfl hl
theorem ref05_Low_spec (l : Str) (s : St) (hl : l.length < 2^62) : cw (.f F_ref05_Low) [.str l] s = some (.ret (.val (.bool (lowR l))), s) := by
  rw [ref05_Low_eq]
  have h := fun s => ref05_among_spec l wordsR s (by decide) false
  rw [encS_false] at h
  simp only [go_sem, Nat.reduceAdd, Nat.reduceLeDiff, Nat.reduceSub, Nat.reduceMul, Nat.reduceEqDiff, Int.reduceEq, Int.reduceLT, Int.reduceLE, Int.reduceAdd, Int.reduceSub, Int.reduceNeg, Int.reduceGT, Int.reduceGE, Int.reduceNe, ne_eq, not_false_eq_true, ref05_shaped_spec l _ _ hl, ref05_Words_spec, h]
  rfl
end Go.Proofs.Ytfkihppbbeonkaa

namespace Go.Am
open Go
theorem contains_nil (sub : List UInt8) : Go.Lib.contains [] sub = sub.isEmpty := by
  unfold Go.Lib.contains Go.Lib.index
  cases sub.isEmpty <;> rfl
theorem contains_cons (c : UInt8) (s sub : List UInt8) : Go.Lib.contains (c :: s) sub = (sub.isPrefixOf (c :: s) || Go.Lib.contains s sub) := by
  have h := Go.Lib.index_ge s sub
  unfold Go.Lib.contains
  rw [Go.Lib.index]
  cases sub.isPrefixOf (c :: s) with
  | true => rfl
  | false =>
    simp only [Bool.false_eq_true, if_false, Bool.false_or]
    by_cases h1 : Go.Lib.index s sub = -1
    · rw [h1]; rfl
    · have h2 : (Go.Lib.index s sub == -1) = false := by simpa using h1
      rw [h2]
      simp only [Bool.false_eq_true, if_false]
      congr 1
      rw [eq_iff_iff]
      omega
theorem skip_word : ∀ (w T x : List UInt8), (∀ c ∈ w, c ≠ 32) → Go.Lib.contains (w ++ T) (32 :: x) = Go.Lib.contains T (32 :: x)
  | [], _, _, _ => rfl
  | c :: w, T, x, h => by
    have hc : ((32 : UInt8) == c) = false := by have := h c (by simp); rw [beq_eq_false_iff_ne]; exact fun e => this e.symm
    rw [List.cons_append, contains_cons, List.isPrefixOf, hc, Bool.false_and, Bool.false_or]
    exact skip_word w T x fun d hd => h d (List.mem_cons_of_mem _ hd)
theorem prefix_word : ∀ (l w T : List UInt8), (∀ c ∈ l, c ≠ 32) → (∀ c ∈ w, c ≠ 32) → (l ++ [32]).isPrefixOf (w ++ 32 :: T) = decide (l = w)
  | [], [], T, _, _ => by simp [List.isPrefixOf]
  | [], c :: w, T, _, h => by
    have hc : ((32 : UInt8) == c) = false := by have := h c (by simp); rw [beq_eq_false_iff_ne]; exact fun e => this e.symm
    simp [List.isPrefixOf, hc]
  | a :: l, [], T, h, _ => by
    have hc : (a == (32 : UInt8)) = false := by have := h a (by simp); rw [beq_eq_false_iff_ne]; exact this
    simp [List.isPrefixOf, hc]
  | a :: l, c :: w, T, h, g => by
    have ih := prefix_word l w T (fun d hd => h d (List.mem_cons_of_mem _ hd)) (fun d hd => g d (List.mem_cons_of_mem _ hd))
    rw [List.cons_append, List.cons_append, List.isPrefixOf, ih]
    by_cases hac : a = c
    · subst hac; simp
    · have : (a == c) = false := by rw [beq_eq_false_iff_ne]; exact hac
      simp [this, hac]
theorem word_in (l : Str) (hl : ∀ c ∈ l, c ≠ 32) : ∀ ws : List Str, (∀ w ∈ ws, ∀ c ∈ w, c ≠ 32) → Go.Lib.contains (32 :: (ws.flatMap fun w => w ++ [32])) (32 :: (l ++ [32])) = ws.any fun w => decide (l = w)
  | [], _ => by
    rw [List.flatMap_nil, contains_cons, contains_nil]
    cases l <;> simp [List.isPrefixOf]
  | w :: ws, h => by
    have hw := h w (by simp)
    have e : (w :: ws).flatMap (fun w => w ++ [32]) = w ++ 32 :: (ws.flatMap fun w => w ++ [32]) := by simp
    rw [e, contains_cons, List.isPrefixOf, beq_self_eq_true, Bool.true_and, prefix_word l w _ hl hw, skip_word w _ _ hw, word_in l hl ws fun v hv => h v (List.mem_cons_of_mem _ hv), List.any_cons]
def wordsAll : List Str := wordsR ++ [[116, 114, 117, 101], [102, 97, 108, 115, 101], [95]]
theorem words_eq : wordsS = 32 :: (wordsAll.flatMap fun w => w ++ [32]) := by decide +kernel
theorem words_plain : ∀ w ∈ wordsAll, ∀ c ∈ w, c ≠ 32 := by decide +kernel
theorem rest_eq (n : Int) : restR n = !unrestB n := by
  simp only [restR, unrestB, smallB, greatB]
  by_cases h1 : n ≥ 97 <;> by_cases h2 : n ≤ 122 <;> by_cases h3 : n = 95 <;> by_cases h4 : n ≥ 65 <;> by_cases h5 : n ≤ 90 <;> by_cases h6 : n < 48 <;> by_cases h7 : n > 57 <;> by_cases h8 : n = 39 <;> simp [h1, h2, h3, h4, h5, h6, h7, h8] <;> omega
theorem shaped_eq (l : Str) (cap : Bool) : shapedR l cap = (!decide (l = []) && letterR (headB l) cap && runB l) := by
  have e : ((l.drop 1).all fun c => restR c.toNat) = restAll (l.drop 1) := by
    unfold restAll
    congr 1
    funext c
    exact rest_eq _
  unfold shapedR runB
  rw [e]
  have e1 : decide ((l.length : Int) < 1) = decide (l = []) := by cases l <;> simp; omega
  have e2 : decide ((l.length : Int) > 32) = !decide (l.length ≤ 32) := by
    by_cases h : l.length ≤ 32
    · rw [decide_eq_true h, decide_eq_false (by omega)]; rfl
    · rw [decide_eq_false h, decide_eq_true (by omega)]; rfl
  rw [e1, e2]
  cases decide (l = []) <;> cases decide (l.length ≤ 32) <;> cases letterR (headB l) cap <;> cases restAll (l.drop 1) <;> rfl
theorem no_blank (l : Str) (h : shapedR l false = true) : ∀ c ∈ l, c ≠ 32 := by
  rw [shaped_eq] at h
  simp only [Bool.and_eq_true] at h
  obtain ⟨⟨h0, h1⟩, h2⟩ := h
  cases l with
  | nil => intro c hc; cases hc
  | cons a l =>
    intro c hc e
    subst e
    rcases List.mem_cons.1 hc with rfl | hc
    · change letterR 32 false = true at h1
      revert h1; decide
    · simp only [runB, Bool.and_eq_true, restAll, List.drop_one, List.tail_cons, List.all_eq_true] at h2
      have := h2.1 32 hc
      revert this; decide
theorem low_eq (l : Str) : lowR l = lowB l := by
  unfold lowR
  have e : lowB l = (shapedR l false && !Go.Lib.contains wordsS (32 :: (l ++ [32]))) := by rw [shaped_eq]; rfl
  rw [e]
  cases hs : shapedR l false with
  | false => rfl
  | true =>
    rw [words_eq, word_in l (no_blank l hs) wordsAll words_plain]
    unfold wordsAll amongR
    rw [List.any_append]
    have e3 : (wordsR.any fun w => decide (w = l)) = wordsR.any fun w => decide (l = w) := by congr 1; funext w; congr 1; rw [eq_iff_iff]; exact eq_comm
    rw [e3]
    simp only [List.any_cons, List.any_nil]
    cases (wordsR.any fun w => decide (l = w)) <;> cases decide (l = [95]) <;> cases decide (l = [116, 114, 117, 101]) <;> cases decide (l = [102, 97, 108, 115, 101]) <;> rfl
end Go.Am

namespace Go.Proofs.Ytfkihppbbeonkaa
open Go Go.Am
set_option linter.unusedVariables false
set_option maxRecDepth 4000
def argsR (nm : Str) : Int × Int :=
  bif decide (nm = [105, 110, 116]) || decide (nm = [98, 111, 111, 108]) || decide (nm = [117, 110, 105, 116]) || decide (nm = [101, 120, 110]) then (0, 0) else bif decide (nm = [114, 101, 102]) then (1, 1) else bif decide (nm = [45, 62]) then (2, 2) else bif decide (nm = [42]) then (2, 8) else (0, 8)
theorem ref05_Args_spec (nm : Str) (s : St) : cw (.f F_ref05_Args) [.str nm] s = some (.ret (.val (.tup [.int .i64 (argsR nm).1, .int .i64 (argsR nm).2])), s) := by
  rw [ref05_Args_eq]
  simp only [go_sem, Nat.reduceAdd, Nat.reduceLeDiff, Nat.reduceSub, Nat.reduceMul, Nat.reduceEqDiff, Int.reduceEq, Int.reduceLT, Int.reduceLE, Int.reduceAdd, Int.reduceSub, Int.reduceNeg, Int.reduceGT, Int.reduceGE, Int.reduceNe, ne_eq, not_false_eq_true, ref05_Args_j0_eq]
  delta argsR
  generalize decide (nm = [105, 110, 116]) = x1
  generalize decide (nm = [98, 111, 111, 108]) = x2
  generalize decide (nm = [117, 110, 105, 116]) = x3
  generalize decide (nm = [101, 120, 110]) = x4
  generalize decide (nm = [114, 101, 102]) = x5
  generalize decide (nm = [45, 62]) = x6
  generalize decide (nm = [42]) = x7
  cases x1 <;> cases x2 <;> cases x3 <;> cases x4 <;> cases x5 <;> cases x6 <;> cases x7 <;> rfl
end Go.Proofs.Ytfkihppbbeonkaa

namespace Go.Proofs.Ytfkihppbbeonkaa
open Go Go.Am
set_option linter.unusedVariables false
set_option maxRecDepth 4000
/-- nodes made anew -/
abbrev Nodes (r : Res) (s : St) (l : List TNode) : Prop := RetA r T_ref05_Node s (l.map TNode.enc)
abbrev NAcc (s0 s : St) (x : Slot) (l : List TNode) : Prop := AccR T_ref05_Node s0 s x (l.map TNode.enc)
theorem nacc {s0 s : St} {x y : Slot} {A B : List TNode} (h : NAcc s0 s x A) (hy : y.list? = some (B.map TNode.enc)) (b : A.length + B.length < 2^30) : ∃ x' s', appendS T_ref05_Node (C.ti T_ref05_Node) s x y = some (x', s') ∧ NAcc s0 s' x' (A ++ B) :=
  AccR.appendF h hy (fun a => by rw [T_ref05_Node_size]; exact TNode.cells_len a) (by rw [T_ref05_Node_size]; decide) b (by rw [T_ref05_Node_bytes]; decide)
theorem ref05_OfTy_loop (a : Int) (t : Ty) (hl : t.args.length < 2^40) (s0 : St) : ∀ (suf pre : List Ty) (A : List TNode) (x : Slot) (s : St) (i : Nat), NAcc s0 s x A → pre ++ suf = t.args → i = pre.length → (∀ t ∈ suf, ∀ s, Nodes (cw (.f F_ref05_OfTy) [t.enc, .int .i64 a] s) s (nodesTy a t)) → A.length + Ty.sizes suf < 2^30 →
    Nodes (ref05_OfTy_l0 (.val (.int .i64 a)) (t.cells.map .val) x (.val (.int .i64 i)) s) s0 (A ++ nodesTys a suf)
  | [], pre, A, x, s, i, hx, h, hi, H, hb => by
    subst hi
    rw [ref05_OfTy_l0_eq]; simp only [go_sem, Nat.reduceAdd, Nat.reduceLeDiff, Nat.reduceSub, Nat.reduceMul, Nat.reduceEqDiff, Int.reduceEq, Int.reduceLT, Int.reduceLE, Int.reduceAdd, Int.reduceSub, Int.reduceNeg, Int.reduceGT, Int.reduceGE, Int.reduceNe, ne_eq, not_false_eq_true, Ty.cells_eq, end_facts (by simpa using h), nodesTys]
    exact RetA.mk hx
  | u :: suf, pre, A, x, s, i, hx, h, hi, H, hb => by
    subst hi
    obtain ⟨f1, f2, f3⟩ := step_facts (x := .val (encS t.nl (t.args.map Ty.enc))) (list?_encS _ _) h (by omega) (Ty.cells_len u) (by decide)
    obtain ⟨y, s1, e1, g1⟩ := H u (List.mem_cons_self) s
    have hlen := nodesTy_len a u
    simp only [Ty.sizes] at hb
    obtain ⟨x', s2, e2, g2⟩ := nacc (hx.move g1.grew) g1.list? (by omega)
    have := ref05_OfTy_loop a t hl s0 suf (pre ++ [u]) (A ++ nodesTy a u) x' s2 (pre.length + 1) g2 (by simpa using h) (by simp) (fun w hw => H w (List.mem_cons_of_mem _ hw)) (by rw [List.length_append]; omega)
    rw [ref05_OfTy_l0_eq]; rw [Ty.cells_eq] at this ⊢; simp only [go_sem, Nat.reduceAdd, Nat.reduceLeDiff, Nat.reduceSub, Nat.reduceMul, Nat.reduceEqDiff, Int.reduceEq, Int.reduceLT, Int.reduceLE, Int.reduceAdd, Int.reduceSub, Int.reduceNeg, Int.reduceGT, Int.reduceGE, Int.reduceNe, ne_eq, not_false_eq_true, f1, f2, f3, e1, e2] at this ⊢
    simp only [nodesTys]
    exact this
theorem ref05_OfTy_spec : ∀ (m : Nat) (a : Int) (t : Ty) (s : St), t.size ≤ m → t.size < 2^28 → Nodes (cw (.f F_ref05_OfTy) [t.enc, .int .i64 a] s) s (nodesTy a t)
  | 0, a, .mk _ _ _ _ _, _, h, _ => by simp only [Ty.size] at h; omega
  | m + 1, a, .mk k n nm l nl, s, h, h' => by
    simp only [Ty.size] at h h'
    have hl := Ty.len_sizes l
    have := ref05_OfTy_loop a (.mk k n nm l nl) (by simp only [Ty.args]; omega) s l [] [.ty (.mk k n nm l nl) a] (.full [(TNode.ty (.mk k n nm l nl) a).enc]) s 0 (AccR.full _ _ _) rfl rfl (fun u hu s => by have := Ty.mem_sizes hu; exact ref05_OfTy_spec m a u s (by omega) (by omega)) (by simp only [List.length_singleton]; omega)
    rw [ref05_OfTy_eq]; simp only [go_sem, Nat.reduceAdd, Nat.reduceLeDiff, Nat.reduceSub, Nat.reduceMul, Nat.reduceEqDiff, Int.reduceEq, Int.reduceLT, Int.reduceLE, Int.reduceAdd, Int.reduceSub, Int.reduceNeg, Int.reduceGT, Int.reduceGE, Int.reduceNe, ne_eq, not_false_eq_true, Ty.enc, TNode.cells, Dec.zero, Exp.zero, Pat.zero, Fun.zero, Case.zero, Con.zero, Ty.zero, Con.cells, TNode.enc, nodesTy] at this ⊢
    exact this
end Go.Proofs.Ytfkihppbbeonkaa

namespace Go.Am
open Go
@[go_sem] theorem gd_bsl1 (b : Bool) (sz : Nat) (x : Slot) (r : List Slot) : gd b (fullO (bslS sz (gdV b x :: r))) = gd b (fullO (bslS sz (x :: r))) := by cases b <;> rfl
end Go.Am
namespace Go.Proofs.Ytfkihppbbeonkaa
open Go Go.Am
set_option linter.unusedVariables false
set_option maxRecDepth 4000
end Go.Proofs.Ytfkihppbbeonkaa

namespace Go.Am
open Go
end Go.Am
namespace Go.Proofs.Ytfkihppbbeonkaa
open Go Go.Am
set_option linter.unusedVariables false
set_option maxRecDepth 4000
/-! ### nodes -/
def tnd (u : Ty) : AV := (TNode.ty u 0).enc
theorem tnd_len (u : Ty) : (tnd u).cells.length = 47 := TNode.cells_len (.ty u 0)
theorem ofTy_pre (t : Ty) (s : St) (h : t.size < 2^28) : RetA (cw (.f F_ref05_OfTy) [t.enc, .int .i64 0] s) T_ref05_Node s ((preTy t).map tnd) := by
  have := ref05_OfTy_spec _ 0 t s (Nat.le_refl _) h
  unfold Nodes at this
  rw [nodesTy_pre, List.map_map] at this
  exact this
theorem ref08_good_spec (t : Ty) (s : St) (hl : t.name.length < 2^40) : cw (.f F_ref08_good) [t.enc] s = some (.ret (.val (.bool (goodB t))), s) := by
  have e1 := fun s => ref05_Low_spec t.name s (by omega)
  have e2 := ref05_Args_spec t.name
  unfold goodB goodC
  rw [ref08_good_eq]
  simp only [go_sem, Nat.reduceAdd, Nat.reduceLeDiff, Nat.reduceSub, Nat.reduceMul, Nat.reduceEqDiff, Int.reduceEq, Int.reduceLT, Int.reduceLE, Int.reduceAdd, Int.reduceSub, Int.reduceNeg, Int.reduceGT, Int.reduceGE, Int.reduceNe, ne_eq, not_false_eq_true, Ty.enc, Ty.cells_eq, e1, e2, low_eq]
  congr 5
  have hlow : (decide (t.name = [105, 110, 116]) || decide (t.name = [98, 111, 111, 108]) || decide (t.name = [117, 110, 105, 116]) || decide (t.name = [101, 120, 110])) = true → lowB t.name = true := by
    intro h
    simp only [Bool.or_eq_true, decide_eq_true_eq] at h
    rcases h with ((h | h) | h) | h <;> rw [h] <;> decide +kernel
  cases decide (t.kind = 1) with
  | true => rfl
  | false =>
    revert hlow
    delta givenB argsR
    generalize decide (t.name = [105, 110, 116]) = x1
    generalize decide (t.name = [98, 111, 111, 108]) = x2
    generalize decide (t.name = [117, 110, 105, 116]) = x3
    generalize decide (t.name = [101, 120, 110]) = x4
    generalize decide (t.name = [114, 101, 102]) = x5
    generalize decide (t.name = [45, 62]) = x6
    generalize decide (t.name = [42]) = x7
    generalize lowB t.name = lw
    generalize decide (t.kind = 2) = a
    generalize decide (t.n = 0) = b
    intro hlow
    generalize (x1 || x2 || x3 || x4) = y at hlow ⊢
    cases y <;> cases x5 <;> cases x6 <;> cases x7 <;> cases lw <;> first | (simp at hlow; done) | (cases a <;> cases b <;> simp)
/-- a list of types in memory as nodes: is each good? -/
theorem ref08_Formed_lp (L : List Ty) (x : Slot) (hx : x.list? = some (L.map tnd)) (hl : L.length < 2^40) : ∀ (suf pre : List Ty) (s : St) (i : Nat), pre ++ suf = L → i = pre.length → (∀ t ∈ suf, t.name.length < 2^40) →
    ref08_Formed_l0 x (.val (.int .i64 i)) s = some (.ret (.val (.bool (suf.all goodB))), s)
  | [], pre, s, i, h, hi, H => by
    subst hi
    rw [ref08_Formed_l0_eq]; simp only [go_sem, Nat.reduceAdd, Nat.reduceLeDiff, Nat.reduceSub, Nat.reduceMul, Nat.reduceEqDiff, Int.reduceEq, Int.reduceLT, Int.reduceLE, Int.reduceAdd, Int.reduceSub, Int.reduceNeg, Int.reduceGT, Int.reduceGE, Int.reduceNe, ne_eq, not_false_eq_true, hx, end_facts (by simpa using h)]; rfl
  | t :: suf, pre, s, i, h, hi, H => by
    subst hi
    obtain ⟨f1, f2, f3⟩ := step_facts hx h (by omega) (tnd_len t) (by decide)
    have e1 := ref08_good_spec t s (H t List.mem_cons_self)
    have ih := ref08_Formed_lp L x hx hl suf (pre ++ [t]) s (pre.length + 1) (by simpa using h) (by simp) (fun w hw => H w (List.mem_cons_of_mem _ hw))
    rw [ref08_Formed_l0_eq]
    simp only [go_sem, Nat.reduceAdd, Nat.reduceLeDiff, Nat.reduceSub, Nat.reduceMul, Nat.reduceEqDiff, Int.reduceEq, Int.reduceLT, Int.reduceLE, Int.reduceAdd, Int.reduceSub, Int.reduceNeg, Int.reduceGT, Int.reduceGE, Int.reduceNe, ne_eq, not_false_eq_true, Ty.enc] at e1
    simp only [go_sem, Nat.reduceAdd, Nat.reduceLeDiff, Nat.reduceSub, Nat.reduceMul, Nat.reduceEqDiff, Int.reduceEq, Int.reduceLT, Int.reduceLE, Int.reduceAdd, Int.reduceSub, Int.reduceNeg, Int.reduceGT, Int.reduceGE, Int.reduceNe, ne_eq, not_false_eq_true, hx, f1, f2, f3, tnd, TNode.enc, TNode.cells, Dec.cells_len, Exp.cells_len, Pat.cells_len, e1, ih, List.all_cons]
    cases goodB t <;> rfl
theorem ref08_Formed_spec (t : Ty) (s : St) (h : t.size < 2^28) (hn : NamesTy t) : Ret (cw (.f F_ref08_Formed) [t.enc] s) s (.bool (allTy goodB t)) := by
  obtain ⟨x, s1, e1, a1⟩ := ofTy_pre t s h
  have e2 := ref08_Formed_lp (preTy t) x a1.list? (by rw [preTy_len]; omega) (preTy t) [] s1 0 rfl rfl hn.pre
  refine ⟨s1, ?_, a1.grew⟩
  rw [show ((0 : Nat) : Int) = 0 from rfl] at e2
  rw [ref08_Formed_eq]
  simp only [go_sem, Nat.reduceAdd, Nat.reduceLeDiff, Nat.reduceSub, Nat.reduceMul, Nat.reduceEqDiff, Int.reduceEq, Int.reduceLT, Int.reduceLE, Int.reduceAdd, Int.reduceSub, Int.reduceNeg, Int.reduceGT, Int.reduceGE, Int.reduceNe, ne_eq, not_false_eq_true, Ty.enc] at e1 ⊢
  simp only [go_sem, Nat.reduceAdd, Nat.reduceLeDiff, Nat.reduceSub, Nat.reduceMul, Nat.reduceEqDiff, Int.reduceEq, Int.reduceLT, Int.reduceLE, Int.reduceAdd, Int.reduceSub, Int.reduceNeg, Int.reduceGT, Int.reduceGE, Int.reduceNe, ne_eq, not_false_eq_true, e1, e2, allTy_pre]
/-! ### variables -/
end Go.Proofs.Ytfkihppbbeonkaa

namespace Go.Proofs.Ytfkihppbbeonkaa
open Go Go.Am
set_option linter.unusedVariables false
set_option maxRecDepth 4000
/-! ### others in the place of variables -/
/-! ### lists of numbers -/
theorem ref08_SameInts_lp (L M : List Int) (x y : Slot) (hx : x.list? = some (L.map ekI)) (hy : y.list? = some (M.map ekI)) (hl : L.length < 2^40) (he : M.length = L.length) : ∀ (suf suf' pre pre' : List Int) (s : St) (i : Nat), pre ++ suf = L → pre' ++ suf' = M → i = pre.length → pre'.length = pre.length →
    ref08_SameInts_l0 x y (.val (.int .i64 i)) s = some (.ret (.val (.bool (decide (suf = suf')))), s)
  | [], suf', pre, pre', s, i, h, g, hi, hp => by
    subst hi
    have : suf' = [] := by
      have h1 := congrArg List.length h
      have h2 := congrArg List.length g
      simp only [List.length_append, List.length_nil] at h1 h2
      exact List.eq_nil_of_length_eq_zero (by omega)
    subst this
    rw [ref08_SameInts_l0_eq]; simp only [go_sem, Nat.reduceAdd, Nat.reduceLeDiff, Nat.reduceSub, Nat.reduceMul, Nat.reduceEqDiff, Int.reduceEq, Int.reduceLT, Int.reduceLE, Int.reduceAdd, Int.reduceSub, Int.reduceNeg, Int.reduceGT, Int.reduceGE, Int.reduceNe, ne_eq, not_false_eq_true, hx, end_facts (by simpa using h), decide_true]
  | t :: suf, suf', pre, pre', s, i, h, g, hi, hp => by
    subst hi
    cases suf' with
    | nil =>
      have h1 := congrArg List.length h
      have h2 := congrArg List.length g
      simp only [List.length_append, List.length_nil, List.length_cons] at h1 h2
      omega
    | cons u suf' =>
      obtain ⟨f1, f2, f3⟩ := step_facts (f := ekI) (sz := 1) hx h (by omega) rfl (by decide)
      obtain ⟨-, g2, -⟩ := step_facts (f := ekI) (sz := 1) hy g (by omega) rfl (by decide)
      rw [hp] at g2
      have ih := ref08_SameInts_lp L M x y hx hy hl he suf suf' (pre ++ [t]) (pre' ++ [u]) s (pre.length + 1) (by simpa using h) (by simpa using g) (by simp) (by simp [hp])
      rw [ref08_SameInts_l0_eq]
      simp only [ekI] at f2 g2
      simp only [go_sem, Nat.reduceAdd, Nat.reduceLeDiff, Nat.reduceSub, Nat.reduceMul, Nat.reduceEqDiff, Int.reduceEq, Int.reduceLT, Int.reduceLE, Int.reduceAdd, Int.reduceSub, Int.reduceNeg, Int.reduceGT, Int.reduceGE, Int.reduceNe, ne_eq, not_false_eq_true, hx, f1, f2, f3, g2, ih]
      by_cases e : t = u
      · simp [e, ifR]
      · simp [e, ifR]
theorem ref08_SameInts_spec (L M : List Int) (v w : AV) (hv : (Slot.val v).list? = some (L.map ekI)) (hw : (Slot.val w).list? = some (M.map ekI)) (hl : L.length < 2^40) (s : St) : cw (.f F_ref08_SameInts) [v, w] s = some (.ret (.val (.bool (decide (L = M)))), s) := by
  rw [ref08_SameInts_eq]; simp only [go_sem, Nat.reduceAdd, Nat.reduceLeDiff, Nat.reduceSub, Nat.reduceMul, Nat.reduceEqDiff, Int.reduceEq, Int.reduceLT, Int.reduceLE, Int.reduceAdd, Int.reduceSub, Int.reduceNeg, Int.reduceGT, Int.reduceGE, Int.reduceNe, ne_eq, not_false_eq_true, hv, hw, List.length_map]
  by_cases he : M.length = L.length
  · have h1 := ref08_SameInts_lp L M (.val v) (.val w) hv hw hl he L M [] [] s 0 rfl rfl rfl rfl
    rw [show ((0 : Nat) : Int) = 0 from rfl] at h1
    simp only [go_sem, Nat.reduceAdd, Nat.reduceLeDiff, Nat.reduceSub, Nat.reduceMul, Nat.reduceEqDiff, Int.reduceEq, Int.reduceLT, Int.reduceLE, Int.reduceAdd, Int.reduceSub, Int.reduceNeg, Int.reduceGT, Int.reduceGE, Int.reduceNe, ne_eq, not_false_eq_true, decide_eq_true (show ((L.length : Int) = M.length) by omega), h1]
  · simp only [go_sem, Nat.reduceAdd, Nat.reduceLeDiff, Nat.reduceSub, Nat.reduceMul, Nat.reduceEqDiff, Int.reduceEq, Int.reduceLT, Int.reduceLE, Int.reduceAdd, Int.reduceSub, Int.reduceNeg, Int.reduceGT, Int.reduceGE, Int.reduceNe, ne_eq, not_false_eq_true, decide_eq_false (show ¬ ((L.length : Int) = M.length) by omega)]
    rw [decide_eq_false (fun h => he (by rw [h]))]
end Go.Proofs.Ytfkihppbbeonkaa

namespace Go.Am
open Go
mutual
theorem eqTy_refl : ∀ t : Ty, eqTy t t = true
  | .mk k n s l b => by simp only [eqTy, eqTys_refl l, decide_true, Bool.and_self]
theorem eqTys_refl : ∀ l : List Ty, eqTys l l = true
  | [] => by simp only [eqTys]
  | t :: l => by simp only [eqTys, eqTy_refl t, eqTys_refl l, Bool.and_self]
end
theorem goodB_var {k n : Int} {s : Str} {l : List Ty} {b : Bool} (h : goodB (.mk k n s l b) = true) (hk : k = 1) : 0 ≤ n ∧ s = [] ∧ l = [] := by
  have h : goodC k n s l.length (lowB s) = true := h
  unfold goodC at h
  simp only [decide_eq_true hk, cond_true, Bool.and_eq_true, decide_eq_true_eq] at h
  exact ⟨h.1.1, h.1.2, List.eq_nil_of_length_eq_zero (by omega)⟩
mutual
theorem putR_eq (L : List Ty) : ∀ t : Ty, allTy goodB t = true → putR L t = (chTy (toPut L) t ()).1
  | .mk k n s l b, h => by
    simp only [allTy, Bool.and_eq_true] at h
    simp only [putR, chTy]
    by_cases hk : k = 1
    · obtain ⟨h0, rfl, rfl⟩ := goodB_var h.1 hk
      simp only [decide_eq_true hk, cond_true, toPut]
      split
      · rfl
      · simp only [ownTy, ownTys, tvar, hk]
    · simp only [decide_eq_false hk, cond_false, putRs_eq L l h.2]
theorem putRs_eq (L : List Ty) : ∀ l : List Ty, allTys goodB l = true → putRs L l = (chTys (toPut L) l ()).1
  | [], _ => by simp only [putRs, chTys]
  | t :: l, h => by
    simp only [allTys, Bool.and_eq_true] at h
    simp only [putRs, chTys, putR_eq L t h.1, putRs_eq L l h.2]
end
theorem placeI_lt {n : Int} : ∀ {l : List Int} {i j : Nat}, placeI n l i = some j → i ≤ j ∧ j < i + l.length ∧ l[j - i]? = some n
  | [], _, _, h => by cases h
  | m :: l, i, j, h => by
    simp only [placeI] at h
    split at h
    · rename_i e; cases h; exact ⟨Nat.le_refl _, by simp, by simp [e]⟩
    · obtain ⟨h1, h2, h3⟩ := placeI_lt h
      refine ⟨by omega, by rw [List.length_cons]; omega, ?_⟩
      rw [show j - i = (j - (i + 1)) + 1 by omega]; simpa using h3
theorem placeR_neg (n : Int) (l : List Int) : placeR n l < 0 ↔ placeI n l 0 = none := by
  unfold placeR
  cases h : placeI n l 0 with
  | none => simp
  | some j => simp
/-- the document's list is the program's -/
theorem varsL_app : ∀ (a b : List Ty) (acc : List Int), varsL (a ++ b) acc = varsL b (varsL a acc)
  | [], b, acc => rfl
  | u :: a, b, acc => by simp only [List.cons_append, varsL, varsL_app a b]
theorem toCanon_old (n : Int) (old : List Int) : (toCanon n old).2 = if placeR n old < 0 then old ++ [n] else old := by
  unfold toCanon
  by_cases h : placeR n old < 0
  · rw [if_pos h]; rw [placeR_neg] at h; rw [h]
  · rw [if_neg h]; rw [placeR_neg] at h
    cases hp : placeI n old 0 with
    | none => exact absurd hp h
    | some j => rfl
mutual
theorem varsL_eq : ∀ (t : Ty) (old : List Int), allTy goodB t = true → varsL (preTy t) old = (chTy toCanon t old).2
  | .mk k n s l b, old, h => by
    simp only [allTy, Bool.and_eq_true] at h
    have hv : varsL (preTy (.mk k n s l b)) old = varsL (preTys l) (bif decide (k = 1) && decide (placeR n old < 0) then old ++ [n] else old) := rfl
    rw [hv]
    simp only [chTy]
    by_cases hk : k = 1
    · obtain ⟨h0, rfl, rfl⟩ := goodB_var h.1 hk
      simp only [decide_eq_true hk, cond_true, Bool.true_and, preTys, varsL, toCanon_old]
      by_cases hp : placeR n old < 0
      · simp [hp]
      · simp [hp]
    · simp only [decide_eq_false hk, cond_false, Bool.false_and, varsLs_eq l old h.2]
theorem varsLs_eq : ∀ (l : List Ty) (old : List Int), allTys goodB l = true → varsL (preTys l) old = (chTys toCanon l old).2
  | [], old, _ => by simp only [preTys, varsL, chTys]
  | t :: l, old, h => by
    simp only [allTys, Bool.and_eq_true] at h
    simp only [preTys, varsL_app, chTys, varsL_eq t old h.1, varsLs_eq l _ h.2]
end
/-- what was met stays where it is -/
def Ext (a b : List Int) : Prop := ∃ c, b = a ++ c
theorem Ext.refl (a : List Int) : Ext a a := ⟨[], by simp⟩
theorem Ext.trans {a b c : List Int} (h : Ext a b) (g : Ext b c) : Ext a c := by
  obtain ⟨x, rfl⟩ := h; obtain ⟨y, rfl⟩ := g; exact ⟨x ++ y, by simp⟩
theorem placeI_ext {n : Int} {i j : Nat} : ∀ {a c : List Int}, placeI n a i = some j → placeI n (a ++ c) i = some j := by
  intro a
  induction a generalizing i with
  | nil => intro c h; cases h
  | cons m a ih =>
    intro c h
    simp only [List.cons_append, placeI] at h ⊢
    split at h
    · rename_i e; rw [if_pos e]; exact h
    · rename_i e; rw [if_neg e]; exact ih h
theorem toCanon_ext (n : Int) (old : List Int) : Ext old (toCanon n old).2 := by
  rw [toCanon_old]; split
  · exact ⟨_, rfl⟩
  · exact .refl _
mutual
theorem chCanon_ext : ∀ (t : Ty) (old : List Int), Ext old (chTy toCanon t old).2
  | .mk k n s l b, old => by
    simp only [chTy]
    cases decide (k = 1) with
    | true => exact toCanon_ext n old
    | false => exact chCanons_ext l old
theorem chCanons_ext : ∀ (l : List Ty) (old : List Int), Ext old (chTys toCanon l old).2
  | [], old => .refl _
  | t :: l, old => by simp only [chTys]; exact (chCanon_ext t old).trans (chCanons_ext l _)
end
theorem toCanon_ty {n : Int} {old fin : List Int} (h : Ext (toCanon n old).2 fin) : (toCanon n old).1 = tvar (placeR n fin) ∧ ∃ j, placeI n fin 0 = some j := by
  obtain ⟨c, rfl⟩ := h
  unfold toCanon placeR
  cases hp : placeI n old 0 with
  | some j =>
    simp only []
    have := placeI_ext (c := c) hp
    rw [this]; exact ⟨rfl, j, rfl⟩
  | none =>
    simp only []
    have h1 : placeI n (old ++ [n]) 0 = some old.length := by
      rw [show placeI n (old ++ [n]) 0 = _ from placeI_app' n n old 0, hp]; simp
    have := placeI_ext (c := c) h1
    rw [this]; exact ⟨rfl, _, rfl⟩
where
  placeI_app' (n m : Int) : ∀ (l : List Int) (i : Nat), placeI n (l ++ [m]) i = match placeI n l i with | some j => some j | none => if n = m then some (i + l.length) else none
  | [], i => by simp [placeI]
  | a :: l, i => by
    simp only [List.cons_append, placeI, placeI_app' n m l (i + 1), List.length_cons]
    by_cases h : n = a
    · simp [h]
    · simp only [h, if_false]
      rw [show i + 1 + l.length = i + (l.length + 1) by omega]
mutual
theorem renR_eq : ∀ (t : Ty) (old fin : List Int), Ext (chTy toCanon t old).2 fin → renR fin t = (chTy toCanon t old).1
  | .mk k n s l b, old, fin, h => by
    simp only [chTy] at h ⊢
    simp only [renR]
    cases hk : decide (k = 1) with
    | true => rw [hk] at h; simp only [cond_true] at h ⊢; exact (toCanon_ty h).1.symm
    | false => rw [hk] at h; simp only [cond_false] at h ⊢; rw [renRs_eq l old fin h]
theorem renRs_eq : ∀ (l : List Ty) (old fin : List Int), Ext (chTys toCanon l old).2 fin → renRs fin l = (chTys toCanon l old).1
  | [], old, fin, _ => by simp only [renRs, chTys]
  | t :: l, old, fin, h => by
    simp only [chTys] at h ⊢
    simp only [renRs]
    rw [renR_eq t old fin ((chCanons_ext l _).trans h), renRs_eq l _ fin h]
end
/-! ### sizes -/
section
variable {σ : Type} (to : Int → σ → Ty × σ) (B : Nat)
mutual
theorem chTy_size (h : ∀ n st, (to n st).1.size ≤ B) (hB : 1 ≤ B) : ∀ (t : Ty) (st : σ), (chTy to t st).1.size ≤ t.size * B
  | .mk k n s l b, st => by
    simp only [chTy, Ty.size, Nat.add_mul, Nat.one_mul]
    have h1 := h n st
    have h2 := chTys_size h hB l st
    cases decide (k = 1) with
    | true => simp only [cond_true]; omega
    | false => simp only [cond_false, Ty.size]; omega
theorem chTys_size (h : ∀ n st, (to n st).1.size ≤ B) (hB : 1 ≤ B) : ∀ (l : List Ty) (st : σ), Ty.sizes (chTys to l st).1 ≤ Ty.sizes l * B
  | [], st => by simp only [chTys, Ty.sizes]; omega
  | t :: l, st => by
    have h1 := chTy_size h hB t st
    have h2 := chTys_size h hB l (chTy to t st).2
    simp only [chTys, Ty.sizes, Nat.add_mul]; omega
end
end
theorem canonTy_size (t : Ty) : (canonTy t).1.size ≤ t.size := by
  have := chTy_size toCanon 1 (fun n st => by
    unfold toCanon
    split <;> simp only [tvar, Ty.size, Ty.sizes] <;> omega) (Nat.le_refl _) t []
  rw [Nat.mul_one] at this
  exact this
end Go.Am

namespace Go.Proofs.Ytfkihppbbeonkaa
open Go Go.Am
set_option linter.unusedVariables false
set_option maxRecDepth 4000
def kInt : Ty := .mk 2 0 [105, 110, 116] [] true
def kRef : Ty := .mk 2 0 [114, 101, 102] [] true
theorem law08_knows_spec (s : St) : Ret (cw (.f F_law08_knows) [] s) s (.bool true) := by
  obtain ⟨s1, e1, g1⟩ := ty_Fn_spec (tvar 0) (tvar 2) s (wide_tvar _) (wide_tvar _)
  obtain ⟨s2, e2, g2⟩ := ty_Fn_spec (tvar 2) (fnTy (tvar 0) (tvar 2)) s1 (wide_tvar _) (wide_of_size _ (by decide +kernel))
  obtain ⟨s3, e3, g3⟩ := ty_Canon_spec (fnTy (tvar 2) (fnTy (tvar 0) (tvar 2))) s2 (by decide +kernel)
  obtain ⟨s4, e4, g4⟩ := ty_Fn_spec (tvar 1) (tvar 0) s3 (wide_tvar _) (wide_tvar _)
  obtain ⟨s5, e5, g5⟩ := ty_Fn_spec (tvar 0) (fnTy (tvar 1) (tvar 0)) s4 (wide_tvar _) (wide_of_size _ (by decide +kernel))
  have e6 := ty_Same_spec (canonTy (fnTy (tvar 2) (fnTy (tvar 0) (tvar 2)))).1 (wide_of_size _ (by decide +kernel)) (fnTy (tvar 0) (fnTy (tvar 1) (tvar 0))) s5
  obtain ⟨s7, e7, g7⟩ := ty_Of_spec [105, 110, 116] [] .nils rfl (by decide) (by simp) s5
  obtain ⟨s8, e8, g8⟩ := ty_Of_spec [105, 110, 116] [] .nils rfl (by decide) (by simp) s7
  obtain ⟨s9, e9, g9⟩ := ty_Fn_spec kInt kInt s8 (wide_of_size _ (by decide +kernel)) (wide_of_size _ (by decide +kernel))
  have e10 := ty_Size_spec _ (fnTy kInt kInt) s9 (Nat.le_refl _) (by decide +kernel)
  obtain ⟨s11, e11, g11⟩ := ty_Of_spec [105, 110, 116] [] .nils rfl (by decide) (by simp) s9
  obtain ⟨s12, e12, g12⟩ := ty_Right_spec kInt s11 (by decide +kernel) (by intro n hn; simp only [kInt, nodesTy, nodesTys, List.mem_singleton] at hn; subst hn; simp [TNode.ok, Ty.name])
  obtain ⟨s13, e13, g13⟩ := ty_Of_spec [114, 101, 102] [] .nils rfl (by decide) (by simp) s12
  obtain ⟨s14, e14, g14⟩ := ty_Right_spec kRef s13 (by decide +kernel) (by intro n hn; simp only [kRef, nodesTy, nodesTys, List.mem_singleton] at hn; subst hn; simp [TNode.ok, Ty.name])
  rw [show eqTy (canonTy (fnTy (tvar 2) (fnTy (tvar 0) (tvar 2)))).1 (fnTy (tvar 0) (fnTy (tvar 1) (tvar 0))) = true from by decide +kernel] at e6
  rw [show canonTy (fnTy (tvar 2) (fnTy (tvar 0) (tvar 2))) = (fnTy (tvar 0) (fnTy (tvar 1) (tvar 0)), [2, 0]) from by rfl] at e3 e6
  rw [show (fnTy kInt kInt).size = 3 from by decide +kernel] at e10
  rw [show rightTyB kInt = true from by decide +kernel] at e12
  rw [show rightTyB kRef = false from by decide +kernel] at e14
  have hx : Grew s s14 := (((((((((((g1.trans g2).trans g3).trans g4).trans g5).trans g7).trans g8).trans g9).trans g11).trans g12).trans g13).trans g14)
  simp only [go_sem, Nat.reduceAdd, Nat.reduceLeDiff, Nat.reduceSub, Nat.reduceMul, Nat.reduceEqDiff, Int.reduceEq, Int.reduceLT, Int.reduceLE, Int.reduceAdd, Int.reduceSub, Int.reduceNeg, Int.reduceGT, Int.reduceGE, Int.reduceNe, ne_eq, not_false_eq_true, kInt, kRef, fnTy, ofTy, tvar, List.map, ownTy, ownTys, Ty.enc, ekI, encS_cons] at e1 e2 e3 e4 e5 e6 e7 e8 e9 e10 e11 e12 e13 e14
  have i0 : ixS 1 (.val (.sl [.int .i64 2, .int .i64 0])) (.val (.int .i64 0)) = some (.val (.cp [.int .i64 2])) := rfl
  have i1 : ixS 1 (.val (.sl [.int .i64 2, .int .i64 0])) (.val (.int .i64 1)) = some (.val (.cp [.int .i64 0])) := rfl
  have q2 : decide (((2 : Nat) : Int) = 2) = true := rfl
  have q3 : decide (((3 : Nat) : Int) = 3) = true := rfl
  rw [law08_knows_eq]
  simp only [go_sem, Nat.reduceAdd, Nat.reduceLeDiff, Nat.reduceSub, Nat.reduceMul, Nat.reduceEqDiff, Int.reduceEq, Int.reduceLT, Int.reduceLE, Int.reduceAdd, Int.reduceSub, Int.reduceNeg, Int.reduceGT, Int.reduceGE, Int.reduceNe, ne_eq, not_false_eq_true, e1, e2, e3, e4, e5, e6, e7, e8, e9, e10, e11, e12, e13, e14, i0, i1, q2, q3]
  exact ⟨_, rfl, hx⟩
end Go.Proofs.Ytfkihppbbeonkaa

namespace Go.Am
open Go
mutual
theorem own_own : ∀ t : Ty, ownTy (ownTy t) = ownTy t
  | .mk k n s l b => by simp only [ownTy, owns_own l]
theorem owns_own : ∀ l : List Ty, ownTys (ownTys l) = ownTys l
  | [] => rfl
  | t :: l => by simp only [ownTys, own_own t, owns_own l]
end
section
variable {σ : Type} (to : Int → σ → Ty × σ)
mutual
theorem ch_own : ∀ (t : Ty) (st : σ), chTy to (ownTy t) st = chTy to t st
  | .mk k n s l b, st => by simp only [ownTy, chTy, chs_own l st]
theorem chs_own : ∀ (l : List Ty) (st : σ), chTys to (ownTys l) st = chTys to l st
  | [], _ => rfl
  | t :: l, st => by simp only [ownTys, chTys, ch_own t st, chs_own l]
end
mutual
theorem own_ch (h : ∀ n st, ownTy (to n st).1 = (to n st).1) : ∀ (t : Ty) (st : σ), ownTy (chTy to t st).1 = (chTy to t st).1
  | .mk k n s l b, st => by
    simp only [chTy]
    cases decide (k = 1) with
    | true => exact h n st
    | false => simp only [cond_false, ownTy, owns_ch h l st]
theorem owns_ch (h : ∀ n st, ownTy (to n st).1 = (to n st).1) : ∀ (l : List Ty) (st : σ), ownTys (chTys to l st).1 = (chTys to l st).1
  | [], _ => rfl
  | t :: l, st => by simp only [chTys, ownTys, own_ch h t st, owns_ch h l]
end
mutual
/-- each variable put for itself -/
theorem ch_self (h : ∀ n st, 0 ≤ n → (to n st).1 = tvar n) : ∀ (t : Ty) (st : σ), allTy goodB t = true → eqTy (chTy to t st).1 t = true
  | .mk k n s l b, st, g => by
    simp only [allTy, Bool.and_eq_true] at g
    simp only [chTy]
    by_cases hk : k = 1
    · obtain ⟨h0, rfl, rfl⟩ := goodB_var g.1 hk
      rw [decide_eq_true hk]; simp only [cond_true, h n st h0, tvar, eqTy, eqTys]
      rw [decide_eq_true hk.symm]; simp
    · rw [decide_eq_false hk]; simp only [cond_false, eqTy, chs_self h l st g.2, decide_true, Bool.and_self]
theorem chs_self (h : ∀ n st, 0 ≤ n → (to n st).1 = tvar n) : ∀ (l : List Ty) (st : σ), allTys goodB l = true → eqTys (chTys to l st).1 l = true
  | [], _, _ => by simp only [chTys, eqTys]
  | t :: l, st, g => by
    simp only [allTys, Bool.and_eq_true] at g
    simp only [chTys, eqTys, ch_self h t st g.1, chs_self h l _ g.2, Bool.and_self]
end
end
theorem toPut_own (l : List Ty) (n : Int) (u : Unit) : ownTy (toPut l n u).1 = (toPut l n u).1 := by
  simp only [toPut]
  split
  · exact own_own _
  · simp only [tvar, ownTy, ownTys]
mutual
def VarsLt (b : Int) : Ty → Prop
  | .mk k n _ l _ => (k = 1 → n < b) ∧ (k ≠ 1 → VarsLts b l)
def VarsLts (b : Int) : List Ty → Prop
  | [] => True
  | t :: l => VarsLt b t ∧ VarsLts b l
end
mutual
theorem varsLt_of (b : Int) : ∀ (t : Ty) (old fin : List Int), Ext (chTy toCanon t old).2 fin → (∀ n ∈ fin, n < b) → VarsLt b t
  | .mk k n s l _, old, fin, h, hf => by
    simp only [chTy] at h
    simp only [VarsLt]
    by_cases hk : k = 1
    · rw [decide_eq_true hk] at h; simp only [cond_true] at h
      obtain ⟨-, j, hj⟩ := toCanon_ty h
      have := (placeI_lt hj).2.2
      exact ⟨fun _ => hf n (List.mem_of_getElem? this), fun h => absurd hk h⟩
    · rw [decide_eq_false hk] at h; simp only [cond_false] at h
      exact ⟨fun h => absurd h hk, fun _ => varsLts_of b l old fin h hf⟩
theorem varsLts_of (b : Int) : ∀ (l : List Ty) (old fin : List Int), Ext (chTys toCanon l old).2 fin → (∀ n ∈ fin, n < b) → VarsLts b l
  | [], _, _, _, _ => trivial
  | t :: l, old, fin, h, hf => by
    simp only [chTys] at h
    exact ⟨varsLt_of b t old fin ((chCanons_ext l _).trans h) hf, varsLts_of b l _ fin h hf⟩
end
mutual
theorem put_put (l k : List Ty) : ∀ (t : Ty), allTy goodB t = true → VarsLt l.length t → putTy (putTy t l) k = putTy t (l.map fun u => putTy u k)
  | .mk kd n s a b, h, hv => by
    simp only [allTy, Bool.and_eq_true] at h
    simp only [VarsLt] at hv
    by_cases hk : kd = 1
    · obtain ⟨h0, -, -⟩ := goodB_var h.1 hk
      have hn := hv.1 hk
      obtain ⟨m, rfl⟩ := Int.eq_ofNat_of_zero_le h0
      have hm : m < l.length := by omega
      have e1 : putTy (.mk kd (m : Int) s a b) l = ownTy l[m] := by
        simp only [putTy, chTy]; rw [decide_eq_true hk]; simp only [cond_true, toPut]
        rw [if_pos ⟨h0, hn⟩]; simp [hm]
      have e2 : putTy (.mk kd (m : Int) s a b) (l.map fun u => putTy u k) = ownTy (putTy l[m] k) := by
        simp only [putTy, chTy]; rw [decide_eq_true hk]; simp only [cond_true, toPut]
        rw [if_pos ⟨h0, by simpa using hn⟩]; simp [hm]
      rw [e1, e2]
      show (chTy (toPut k) (ownTy l[m]) ()).1 = ownTy (chTy (toPut k) l[m] ()).1
      rw [ch_own, own_ch (toPut k) (toPut_own k)]
    · have ih := puts_put l k a h.2 (hv.2 hk)
      simp only [putTy, chTy]
      rw [decide_eq_false hk]; simp only [cond_false, chTy]
      rw [decide_eq_false hk]; simp only [cond_false]
      rw [ih]; rfl
theorem puts_put (l k : List Ty) : ∀ (a : List Ty), allTys goodB a = true → VarsLts l.length a → (chTys (toPut k) (chTys (toPut l) a ()).1 ()).1 = (chTys (toPut (l.map fun u => putTy u k)) a ()).1
  | [], _, _ => rfl
  | t :: a, h, hv => by
    simp only [allTys, Bool.and_eq_true] at h
    simp only [VarsLts] at hv
    have h1 := put_put l k t h.1 hv.1
    have h2 := puts_put l k a h.2 hv.2
    show putTy (putTy t l) k :: _ = putTy t (l.map fun u => putTy u k) :: _
    rw [h1]
    exact congrArg _ h2
end
end Go.Am

namespace Go.Am
open Go
/-! ### what is canonical is so again -/
def rangeI (m : Nat) : List Int := (List.range m).map fun i : Nat => (i : Int)
theorem rangeI_succ (m : Nat) : rangeI (m + 1) = rangeI m ++ [(m : Int)] := by simp [rangeI, List.range_succ]
theorem rangeI_len (m : Nat) : (rangeI m).length = m := by simp [rangeI]
theorem placeI_none {n : Int} : ∀ {l : List Int} {i : Nat}, n ∉ l → placeI n l i = none
  | [], _, _ => rfl
  | m :: l, i, h => by
    simp only [placeI]
    rw [if_neg (fun e => h (by simp [e]))]
    exact placeI_none fun hm => h (List.mem_cons_of_mem _ hm)
theorem placeI_range : ∀ (m i : Nat), i < m → placeI (i : Int) (rangeI m) 0 = some i
  | 0, _, h => by omega
  | m + 1, i, h => by
    rw [rangeI_succ]
    by_cases hi : i < m
    · exact placeI_ext (placeI_range m i hi)
    · obtain rfl : i = m := by omega
      rw [toCanon_ty.placeI_app', placeI_none (by simp [rangeI]; omega)]
      simp [rangeI_len]
theorem toCanon_again (n : Int) (x : List Int) : ∃ p : Nat, (toCanon n x).1 = tvar p ∧ toCanon (p : Int) (rangeI x.length) = ((toCanon n x).1, rangeI (toCanon n x).2.length) := by
  cases h : placeI n x 0 with
  | some i =>
    have hi := (placeI_lt h).2.1
    have e : toCanon n x = (tvar (i : Int), x) := by simp only [toCanon, h]
    refine ⟨i, by rw [e], ?_⟩
    rw [e]
    simp only [toCanon, placeI_range x.length i (by omega)]
  | none =>
    have e : toCanon n x = (tvar (x.length : Int), x ++ [n]) := by simp only [toCanon, h]
    refine ⟨x.length, by rw [e], ?_⟩
    rw [e]
    simp only [toCanon, List.length_append, List.length_singleton]
    rw [placeI_none (by simp [rangeI]; omega)]
    simp only [rangeI_len, rangeI_succ]
mutual
theorem ch_again : ∀ (t : Ty) (x : List Int), chTy toCanon (chTy toCanon t x).1 (rangeI x.length) = ((chTy toCanon t x).1, rangeI (chTy toCanon t x).2.length)
  | .mk k n s l b, x => by
    simp only [chTy]
    cases hk : decide (k = 1) with
    | true =>
      simp only [cond_true]
      obtain ⟨p, e1, e2⟩ := toCanon_again n x
      rw [e1] at e2 ⊢
      have : chTy toCanon (tvar p) (rangeI x.length) = toCanon p (rangeI x.length) := by simp only [tvar, chTy, decide_true, cond_true]
      rw [this, e2]
    | false =>
      simp only [cond_false, chTy, hk, chs_again l x]
theorem chs_again : ∀ (l : List Ty) (x : List Int), chTys toCanon (chTys toCanon l x).1 (rangeI x.length) = ((chTys toCanon l x).1, rangeI (chTys toCanon l x).2.length)
  | [], x => by simp only [chTys]
  | t :: l, x => by
    simp only [chTys]
    rw [ch_again t x]
    simp only []
    rw [chs_again l (chTy toCanon t x).2]
end
theorem canon_again (t : Ty) : canonTy (canonTy t).1 = ((canonTy t).1, rangeI (canonTy t).2.length) := ch_again t []
/-! ### the old variables bring it back -/
mutual
theorem ch_back : ∀ (t : Ty) (x fin : List Int), Ext (chTy toCanon t x).2 fin → allTy goodB t = true → eqTy (putTy (chTy toCanon t x).1 (fin.map tvar)) t = true
  | .mk k n s l b, x, fin, h, g => by
    simp only [allTy, Bool.and_eq_true] at g
    simp only [chTy] at h ⊢
    by_cases hk : k = 1
    · obtain ⟨h0, rfl, rfl⟩ := goodB_var g.1 hk
      rw [decide_eq_true hk] at h ⊢
      simp only [cond_true] at h ⊢
      obtain ⟨e1, j, hj⟩ := toCanon_ty h
      have hpl := placeI_lt hj
      have ep : placeR n fin = (j : Int) := by unfold placeR; rw [hj]
      rw [e1, ep]
      have : putTy (tvar (j : Int)) (fin.map tvar) = tvar n := by
        simp only [putTy, tvar, chTy, decide_true, cond_true, toPut]
        have hjl : j < fin.length := by omega
        rw [if_pos ⟨by omega, by simp; omega⟩, List.getD_eq_getElem?_getD]
        have := hpl.2.2
        simp only [Nat.sub_zero] at this
        simp [this, ownTy, ownTys, tvar]
      rw [this]
      simp [tvar, eqTy, eqTys, hk]
    · rw [decide_eq_false hk] at h ⊢
      simp only [cond_false] at h ⊢
      have ih := chs_back l x fin h g.2
      simp only [putTy, chTy]
      rw [decide_eq_false hk]
      simp only [cond_false, eqTy, ih, decide_true, Bool.and_self]
theorem chs_back : ∀ (l : List Ty) (x fin : List Int), Ext (chTys toCanon l x).2 fin → allTys goodB l = true → eqTys (chTys (toPut (fin.map tvar)) (chTys toCanon l x).1 ()).1 l = true
  | [], _, _, _, _ => by simp only [chTys, eqTys]
  | t :: l, x, fin, h, g => by
    simp only [allTys, Bool.and_eq_true] at g
    simp only [chTys] at h ⊢
    have h1 := ch_back t x fin ((chCanons_ext l _).trans h) g.1
    have h2 := chs_back l _ fin h g.2
    simp only [putTy] at h1
    simp only [eqTys, h1, h2, Bool.and_self]
end
theorem canon_back (t : Ty) (h : allTy goodB t = true) : eqTy (putTy (canonTy t).1 ((canonTy t).2.map tvar)) t = true := ch_back t [] _ (.refl _) h
/-! ### alike -/
def headA (s t : Ty) : Bool := decide (s.kind = t.kind) && decide (s.name = t.name) && decide (s.args.length = t.args.length) && (decide (s.kind = 1) || decide (s.n = t.n))
def innerA (s t : Ty) : List Ty → List Ty → Bool
  | a :: A, b :: B => !(decide (a.kind = 1) && !(decide (a.n = s.n) == decide (b.n = t.n))) && innerA s t A B
  | _, _ => true
def alikeL : List Ty → List Ty → List Ty → List Ty → Bool
  | pa, pb, s :: X, t :: Y => headA s t && (bif decide (s.kind = 1) then innerA s t pa pb else true) && alikeL (pa ++ [s]) (pb ++ [t]) X Y
  | _, _, _, _ => true
def alikeB (t u : Ty) : Bool := decide (t.size = u.size) && alikeL [] [] (preTy t) (preTy u)
theorem innerA_iff (s t : Ty) : ∀ (A B : List Ty), A.length = B.length → (innerA s t A B = true ↔ ∀ (k : Nat) (a b : Ty), A[k]? = some a → B[k]? = some b → a.kind = 1 → (a.n = s.n ↔ b.n = t.n))
  | [], [], _ => by simp [innerA]
  | [], _ :: _, h => by simp at h
  | _ :: _, [], h => by simp at h
  | a :: A, b :: B, h => by
    have ih := innerA_iff s t A B (by simpa using h)
    simp only [innerA, Bool.and_eq_true, ih]
    constructor
    · rintro ⟨h1, h2⟩ k a' b' ha hb hk
      cases k with
      | zero =>
        simp only [List.getElem?_cons_zero, Option.some.injEq] at ha hb
        subst ha; subst hb
        rw [decide_eq_true hk] at h1
        simp only [Bool.true_and, Bool.not_not, beq_iff_eq] at h1
        exact decide_eq_decide.1 h1
      | succ k => exact h2 k a' b' (by simpa using ha) (by simpa using hb) hk
    · intro h1
      refine ⟨?_, fun k a' b' ha hb => h1 (k + 1) a' b' (by simpa using ha) (by simpa using hb)⟩
      by_cases hk : a.kind = 1
      · have := h1 0 a b rfl rfl hk
        have e : decide (a.n = s.n) = decide (b.n = t.n) := decide_eq_decide.2 this
        rw [decide_eq_true hk, e]; simp
      · rw [decide_eq_false hk]; simp
structure Met (pa pb : List Ty) (x y : List Int) : Prop where
  len : pa.length = pb.length
  xlen : x.length = y.length
  kind : ∀ (k : Nat) (a b : Ty), pa[k]? = some a → pb[k]? = some b → (a.kind = 1 ↔ b.kind = 1) ∧ (a.kind = 1 → ∃ j, placeI a.n x 0 = some j ∧ placeI b.n y 0 = some j)
  cx : ∀ n j, placeI n x 0 = some j → ∃ (k : Nat) (a : Ty), pa[k]? = some a ∧ a.kind = 1 ∧ a.n = n
  cy : ∀ n j, placeI n y 0 = some j → ∃ (k : Nat) (b : Ty), pb[k]? = some b ∧ b.kind = 1 ∧ b.n = n
def posC (n : Int) (x : List Int) : Nat := match placeI n x 0 with | some i => i | none => x.length
theorem toCanon_pos (n : Int) (x : List Int) : (toCanon n x).1 = tvar (posC n x) := by
  unfold toCanon posC
  cases placeI n x 0 <;> rfl
theorem placeI_inj {n m : Int} {l : List Int} {j : Nat} (h : placeI n l 0 = some j) (g : placeI m l 0 = some j) : n = m := by
  have h1 := (placeI_lt h).2.2
  have h2 := (placeI_lt g).2.2
  rw [h1] at h2
  exact Option.some.inj h2
theorem Met.inner {pa pb : List Ty} {x y : List Int} (M : Met pa pb x y) (s t : Ty) : innerA s t pa pb = true ↔ posC s.n x = posC t.n y := by
  rw [innerA_iff s t pa pb M.len]
  have other : ∀ {k : Nat} {a : Ty}, pa[k]? = some a → ∃ b, pb[k]? = some b := fun {k a} h => by
    have := (List.getElem?_eq_some_iff.1 h).1
    exact ⟨_, List.getElem?_eq_getElem (by rw [← M.len]; exact this)⟩
  have other' : ∀ {k : Nat} {b : Ty}, pb[k]? = some b → ∃ a, pa[k]? = some a := fun {k b} h => by
    have := (List.getElem?_eq_some_iff.1 h).1
    exact ⟨_, List.getElem?_eq_getElem (by rw [M.len]; exact this)⟩
  have hxl := M.xlen
  unfold posC
  constructor
  · intro h
    cases hx : placeI s.n x 0 with
    | some i =>
      obtain ⟨k, a, ha, hk, hn⟩ := M.cx _ _ hx
      obtain ⟨b, hb⟩ := other ha
      obtain ⟨j, h1, h2⟩ := (M.kind k a b ha hb).2 hk
      have := (h k a b ha hb hk).1 hn
      rw [hn, hx] at h1
      cases h1
      rw [this] at h2
      rw [h2]
    | none =>
      cases hy : placeI t.n y 0 with
      | none => exact hxl
      | some i =>
        obtain ⟨k, b, hb, hk, hn⟩ := M.cy _ _ hy
        obtain ⟨a, ha⟩ := other' hb
        have hka := (M.kind k a b ha hb).1.2 hk
        obtain ⟨j, h1, h2⟩ := (M.kind k a b ha hb).2 hka
        have := (h k a b ha hb hka).2 hn
        rw [this, hx] at h1
        cases h1
  · intro h k a b ha hb hk
    obtain ⟨j, h1, h2⟩ := (M.kind k a b ha hb).2 hk
    have hj1 := (placeI_lt h1).2.1
    have hj2 := (placeI_lt h2).2.1
    cases hx : placeI s.n x 0 with
    | some i =>
      have hi := (placeI_lt hx).2.1
      rw [hx] at h
      cases hy : placeI t.n y 0 with
      | none => rw [hy] at h; simp only at h; omega
      | some i' =>
        rw [hy] at h
        simp only at h
        subst h
        constructor
        · intro e; rw [e, hx] at h1; cases h1; exact placeI_inj h2 hy
        · intro e; rw [e, hy] at h2; cases h2; exact placeI_inj h1 hx
    | none =>
      rw [hx] at h
      cases hy : placeI t.n y 0 with
      | some i' => have := (placeI_lt hy).2.1; rw [hy] at h; simp only at h; omega
      | none =>
        constructor
        · intro e; rw [e, hx] at h1; cases h1
        · intro e; rw [e, hy] at h2; cases h2
theorem get_snoc {α : Type} {l : List α} {a b : α} {k : Nat} (h : (l ++ [a])[k]? = some b) : l[k]? = some b ∨ (k = l.length ∧ b = a) := by
  by_cases hk : k < l.length
  · rw [List.getElem?_append_left hk] at h; exact .inl h
  · rw [List.getElem?_append_right (by omega)] at h
    have : k - l.length = 0 := by
      cases hq : k - l.length with
      | zero => rfl
      | succ q => rw [hq] at h; simp at h
    rw [this] at h
    simp at h
    exact .inr ⟨by omega, h.symm⟩
theorem get_old {α : Type} {l : List α} {a b : α} {k : Nat} (h : l[k]? = some b) : (l ++ [a])[k]? = some b := by
  rw [List.getElem?_append_left (List.getElem?_eq_some_iff.1 h).1]; exact h
/-- a node that is no variable -/
theorem Met.node {pa pb : List Ty} {x y : List Int} (M : Met pa pb x y) {s t : Ty} (hs : s.kind ≠ 1) (ht : t.kind ≠ 1) : Met (pa ++ [s]) (pb ++ [t]) x y where
  len := by simp [M.len]
  xlen := M.xlen
  kind := fun k a b ha hb => by
    rcases get_snoc ha with ha | ⟨hk, rfl⟩ <;> rcases get_snoc hb with hb | ⟨hk', rfl⟩
    · exact M.kind k a b ha hb
    · have := (List.getElem?_eq_some_iff.1 ha).1; have := M.len; omega
    · have := (List.getElem?_eq_some_iff.1 hb).1; have := M.len; omega
    · exact ⟨⟨fun h => absurd h hs, fun h => absurd h ht⟩, fun h => absurd h hs⟩
  cx := fun n j h => by obtain ⟨k, a, h1, h2⟩ := M.cx n j h; exact ⟨k, a, get_old h1, h2⟩
  cy := fun n j h => by obtain ⟨k, a, h1, h2⟩ := M.cy n j h; exact ⟨k, a, get_old h1, h2⟩
theorem placeI_canon (n : Int) (x : List Int) : placeI n (toCanon n x).2 0 = some (posC n x) := by
  unfold toCanon posC
  cases h : placeI n x 0 with
  | some i => exact h
  | none => simp only []; rw [toCanon_ty.placeI_app', h]; simp
theorem placeI_keep {m : Int} {j : Nat} (n : Int) {x : List Int} (h : placeI m x 0 = some j) : placeI m (toCanon n x).2 0 = some j := by
  obtain ⟨c, hc⟩ := toCanon_ext n x
  rw [hc]; exact placeI_ext h
theorem placeI_from {m n : Int} {j : Nat} {x : List Int} (h : placeI m (toCanon n x).2 0 = some j) : m = n ∨ placeI m x 0 = some j := by
  unfold toCanon at h
  cases hp : placeI n x 0 with
  | some i => rw [hp] at h; exact .inr h
  | none =>
    rw [hp] at h
    simp only at h
    rw [toCanon_ty.placeI_app'] at h
    cases hm : placeI m x 0 with
    | some i => rw [hm] at h; exact .inr h
    | none =>
      rw [hm] at h
      simp only at h
      split at h
      · rename_i e; exact .inl e
      · cases h
theorem toCanon_len (n : Int) (x : List Int) : (toCanon n x).2.length = if posC n x < x.length then x.length else x.length + 1 := by
  unfold toCanon posC
  cases h : placeI n x 0 with
  | some i => have := (placeI_lt h).2.1; simp only []; rw [if_pos (by omega)]
  | none => simp
/-- a variable -/
theorem Met.var {pa pb : List Ty} {x y : List Int} (M : Met pa pb x y) {s t : Ty} (hs : s.kind = 1) (ht : t.kind = 1) (hp : posC s.n x = posC t.n y) : Met (pa ++ [s]) (pb ++ [t]) (toCanon s.n x).2 (toCanon t.n y).2 where
  len := by simp [M.len]
  xlen := by rw [toCanon_len, toCanon_len, hp, M.xlen]
  kind := fun k a b ha hb => by
    rcases get_snoc ha with ha | ⟨hk, rfl⟩ <;> rcases get_snoc hb with hb | ⟨hk', rfl⟩
    · obtain ⟨h1, h2⟩ := M.kind k a b ha hb
      exact ⟨h1, fun h => by obtain ⟨j, g1, g2⟩ := h2 h; exact ⟨j, placeI_keep _ g1, placeI_keep _ g2⟩⟩
    · have := (List.getElem?_eq_some_iff.1 ha).1; have := M.len; omega
    · have := (List.getElem?_eq_some_iff.1 hb).1; have := M.len; omega
    · exact ⟨⟨fun _ => ht, fun _ => hs⟩, fun _ => ⟨_, placeI_canon _ _, by rw [hp]; exact placeI_canon _ _⟩⟩
  cx := fun n j h => by
    rcases placeI_from h with rfl | h
    · exact ⟨pa.length, s, by simp, hs, rfl⟩
    · obtain ⟨k, a, h1, h2⟩ := M.cx n j h; exact ⟨k, a, get_old h1, h2⟩
  cy := fun n j h => by
    rcases placeI_from h with rfl | h
    · exact ⟨pb.length, t, by simp, ht, rfl⟩
    · obtain ⟨k, a, h1, h2⟩ := M.cy n j h; exact ⟨k, a, get_old h1, h2⟩
theorem eqTy_tvar (p q : Nat) : eqTy (tvar (p : Int)) (tvar (q : Int)) = decide (p = q) := by
  simp only [tvar, eqTy, eqTys, decide_true, Bool.true_and, Bool.and_true]
  rw [decide_eq_decide]; omega
mutual
/-- THE MAIN STEP -/
theorem alike_step : ∀ (t u : Ty) (pa pb : List Ty) (x y : List Int), Met pa pb x y → allTy goodB t = true → allTy goodB u = true →
    (eqTy (chTy toCanon t x).1 (chTy toCanon u y).1 = true → t.size = u.size ∧ Met (pa ++ preTy t) (pb ++ preTy u) (chTy toCanon t x).2 (chTy toCanon u y).2) ∧
    ∀ R S, alikeL pa pb (preTy t ++ R) (preTy u ++ S) = (eqTy (chTy toCanon t x).1 (chTy toCanon u y).1 && alikeL (pa ++ preTy t) (pb ++ preTy u) R S)
  | .mk k n s l b, .mk k' n' s' l' b', pa, pb, x, y, M, g, g' => by
    simp only [allTy, Bool.and_eq_true] at g g'
    have hpre : ∀ R, preTy (.mk k n s l b) ++ R = .mk k n s l b :: (preTys l ++ R) := fun _ => rfl
    have hpre' : ∀ R, preTy (.mk k' n' s' l' b') ++ R = .mk k' n' s' l' b' :: (preTys l' ++ R) := fun _ => rfl
    have hcons : ∀ _ : Unit, pa ++ preTy (.mk k n s l b) = pa ++ [.mk k n s l b] ++ preTys l := fun _ => by simp [preTy]
    have hcons' : ∀ _ : Unit, pb ++ preTy (.mk k' n' s' l' b') = pb ++ [.mk k' n' s' l' b'] ++ preTys l' := fun _ => by simp [preTy]
    have step : ∀ X Y, alikeL pa pb (.mk k n s l b :: X) (.mk k' n' s' l' b' :: Y) = (headA (.mk k n s l b) (.mk k' n' s' l' b') && (bif decide (k = 1) then innerA (.mk k n s l b) (.mk k' n' s' l' b') pa pb else true) && alikeL (pa ++ [.mk k n s l b]) (pb ++ [.mk k' n' s' l' b']) X Y) := fun _ _ => rfl
    have head : headA (.mk k n s l b) (.mk k' n' s' l' b') = (decide (k = k') && decide (s = s') && decide (l.length = l'.length) && (decide (k = 1) || decide (n = n'))) := rfl
    by_cases hk : k = 1
    · obtain ⟨h0, rfl, rfl⟩ := goodB_var g.1 hk
      by_cases hk' : k' = 1
      · obtain ⟨h0', rfl, rfl⟩ := goodB_var g'.1 hk'
        have e1 : chTy toCanon (.mk k n [] [] b) x = toCanon n x := by simp only [chTy]; rw [decide_eq_true hk]; rfl
        have e2 : chTy toCanon (.mk k' n' [] [] b') y = toCanon n' y := by simp only [chTy]; rw [decide_eq_true hk']; rfl
        rw [e1, e2, toCanon_pos, toCanon_pos, eqTy_tvar]
        have hin := M.inner (.mk k n [] [] b) (.mk k' n' [] [] b')
        have hin' : innerA (.mk k n [] [] b) (.mk k' n' [] [] b') pa pb = decide (posC n x = posC n' y) := by
          rw [Bool.eq_iff_iff, decide_eq_true_iff]; exact hin
        refine ⟨fun h => ⟨rfl, ?_⟩, fun R S => ?_⟩
        · simp only [preTy, preTys]
          exact M.var (s := .mk k n [] [] b) (t := .mk k' n' [] [] b') hk hk' (of_decide_eq_true h)
        · rw [hpre, hpre', step, head, hin', decide_eq_true hk, decide_eq_true (hk.trans hk'.symm)]
          simp only [preTys, List.nil_append, preTy, cond_true, decide_true, Bool.true_and, Bool.true_or]
      · have e1 : chTy toCanon (.mk k n [] [] b) x = toCanon n x := by simp only [chTy]; rw [decide_eq_true hk]; rfl
        have e2 : (chTy toCanon (.mk k' n' s' l' b') y).1 = .mk k' n' s' (chTys toCanon l' y).1 true := by simp only [chTy]; rw [decide_eq_false hk']; rfl
        have e3 : eqTy (chTy toCanon (.mk k n [] [] b) x).1 (chTy toCanon (.mk k' n' s' l' b') y).1 = false := by
          rw [e1, e2, toCanon_pos]; simp only [tvar, eqTy]; rw [decide_eq_false (fun h => hk' h.symm)]; simp
        rw [e3]
        refine ⟨fun h => (by cases h), fun R S => ?_⟩
        rw [hpre, hpre', step, head, decide_eq_false (fun h => hk' (h.symm.trans hk))]
        simp
    · by_cases hk' : k' = 1
      · have e1 : (chTy toCanon (.mk k n s l b) x).1 = .mk k n s (chTys toCanon l x).1 true := by simp only [chTy]; rw [decide_eq_false hk]; rfl
        have e2 : chTy toCanon (.mk k' n' s' l' b') y = toCanon n' y := by simp only [chTy]; rw [decide_eq_true hk']; rfl
        have e3 : eqTy (chTy toCanon (.mk k n s l b) x).1 (chTy toCanon (.mk k' n' s' l' b') y).1 = false := by
          rw [e1, e2, toCanon_pos]; simp only [tvar, eqTy]; rw [decide_eq_false hk]; simp
        rw [e3]
        refine ⟨fun h => (by cases h), fun R S => ?_⟩
        rw [hpre, hpre', step, head, decide_eq_false (fun h => hk (h.trans hk'))]
        simp
      · have e1 : chTy toCanon (.mk k n s l b) x = (.mk k n s (chTys toCanon l x).1 true, (chTys toCanon l x).2) := by simp only [chTy]; rw [decide_eq_false hk]; rfl
        have e2 : chTy toCanon (.mk k' n' s' l' b') y = (.mk k' n' s' (chTys toCanon l' y).1 true, (chTys toCanon l' y).2) := by simp only [chTy]; rw [decide_eq_false hk']; rfl
        rw [e1, e2]
        simp only [eqTy]
        have M' := M.node (s := .mk k n s l b) (t := .mk k' n' s' l' b') hk hk'
        by_cases hl : l.length = l'.length
        · obtain ⟨i1, i2⟩ := alikes_step l l' _ _ x y M' g.2 g'.2 hl
          refine ⟨fun h => ?_, fun R S => ?_⟩
          · simp only [Bool.and_eq_true] at h
            obtain ⟨j1, j2⟩ := i1 h.2
            refine ⟨by simp only [Ty.size, j1], ?_⟩
            rw [hcons (), hcons' ()]; exact j2
          · rw [hpre, hpre', step, head, i2, hcons (), hcons' (), decide_eq_false hk, decide_eq_true hl]
            simp only [cond_false, Bool.and_true, Bool.false_or]
            cases decide (k = k') <;> cases decide (s = s') <;> cases decide (n = n') <;> simp
        · have e3 : eqTys (chTys toCanon l x).1 (chTys toCanon l' y).1 = false := eqTys_len _ _ (by rw [chTys_len, chTys_len]; exact hl)
          rw [e3, Bool.and_false]
          refine ⟨fun h => (by cases h), fun R S => ?_⟩
          rw [hpre, hpre', step, head, decide_eq_false hl]
          simp
theorem alikes_step : ∀ (l m : List Ty) (pa pb : List Ty) (x y : List Int), Met pa pb x y → allTys goodB l = true → allTys goodB m = true → l.length = m.length →
    (eqTys (chTys toCanon l x).1 (chTys toCanon m y).1 = true → Ty.sizes l = Ty.sizes m ∧ Met (pa ++ preTys l) (pb ++ preTys m) (chTys toCanon l x).2 (chTys toCanon m y).2) ∧
    ∀ R S, alikeL pa pb (preTys l ++ R) (preTys m ++ S) = (eqTys (chTys toCanon l x).1 (chTys toCanon m y).1 && alikeL (pa ++ preTys l) (pb ++ preTys m) R S)
  | [], [], pa, pb, x, y, M, _, _, _ => by
    simp only [preTys, chTys, eqTys, List.append_nil, List.nil_append, Bool.true_and]
    exact ⟨fun _ => ⟨trivial, M⟩, fun _ _ => trivial⟩
  | [], _ :: _, _, _, _, _, _, _, _, h => by simp at h
  | _ :: _, [], _, _, _, _, _, _, _, h => by simp at h
  | t :: l, u :: m, pa, pb, x, y, M, g, g', h => by
    simp only [allTys, Bool.and_eq_true] at g g'
    obtain ⟨i1, i2⟩ := alike_step t u pa pb x y M g.1 g'.1
    simp only [chTys, eqTys, preTys, Ty.sizes]
    refine ⟨fun hh => ?_, fun R S => ?_⟩
    · simp only [Bool.and_eq_true] at hh
      obtain ⟨j1, j2⟩ := i1 hh.1
      obtain ⟨k1, -⟩ := alikes_step l m _ _ _ _ j2 g.2 g'.2 (by simpa using h)
      obtain ⟨q1, q2⟩ := k1 hh.2
      refine ⟨by rw [j1, q1], ?_⟩
      rw [← List.append_assoc, ← List.append_assoc]; exact q2
    · rw [List.append_assoc, List.append_assoc, i2]
      cases he : eqTy (chTy toCanon t x).1 (chTy toCanon u y).1 with
      | false => simp
      | true =>
        obtain ⟨j1, j2⟩ := i1 he
        obtain ⟨-, k2⟩ := alikes_step l m _ _ _ _ j2 g.2 g'.2 (by simpa using h)
        rw [k2, Bool.true_and, Bool.true_and, List.append_assoc, List.append_assoc]
end
theorem Met.nil : Met [] [] [] [] := ⟨rfl, rfl, by simp, by simp [placeI], by simp [placeI]⟩
theorem canon_alike (t u : Ty) (h : allTy goodB t = true) (g : allTy goodB u = true) : eqTy (canonTy t).1 (canonTy u).1 = alikeB t u ∧ (eqTy (canonTy t).1 (canonTy u).1 = true → (canonTy t).2.length = (canonTy u).2.length) := by
  obtain ⟨i1, i2⟩ := alike_step t u [] [] [] [] .nil h g
  have := i2 [] []
  simp only [List.append_nil, List.nil_append, alikeL, Bool.and_true] at this
  refine ⟨?_, fun hh => (i1 hh).2.xlen⟩
  unfold alikeB
  rw [this]
  show eqTy (chTy toCanon t []).1 (chTy toCanon u []).1 = _
  cases he : eqTy (chTy toCanon t []).1 (chTy toCanon u []).1 with
  | false => simp
  | true => rw [decide_eq_true (i1 he).1]; rfl
end Go.Am

namespace Go.Proofs.Ytfkihppbbeonkaa
open Go Go.Am
set_option linter.unusedVariables false
set_option maxRecDepth 4000
theorem alike_l1 (L M pa pb X Y : List Ty) (t u : Ty) (x y : Slot) (hx : x.list? = some (L.map tnd)) (hy : y.list? = some (M.map tnd)) (hL : pa ++ t :: X = L) (hM : pb ++ u :: Y = M) (hp : pa.length = pb.length) (hl : L.length < 2^40) (hm : M.length < 2^40) (r : Bool) (s : St)
    (K : ref08_Alike_l0 x y (.val (.int .i64 (pa.length + 1 : Nat))) s = some (.ret (.val (.bool r)), s)) : ∀ (suf suf' pre pre' : List Ty) (i : Nat), pre ++ suf = pa → pre' ++ suf' = pb → i = pre.length → pre'.length = pre.length →
    ref08_Alike_l1 x y (.val (.int .i64 pa.length)) (t.cells.map .val) (u.cells.map .val) (.val (.int .i64 i)) s = some (.ret (.val (.bool ((bif decide (t.kind = 1) then innerA t u suf suf' else true) && r))), s)
  | [], suf', pre, pre', i, h, g, hi, hpp => by
    subst hi
    have hpre : pre = pa := by simpa using h
    have e0 : decide ((pre.length : Int) < (pa.length : Int)) = false := by rw [hpre]; simp
    have f3 : IntKind.i64.wrap ((pa.length : Int) + 1) = ((pa.length + 1 : Nat) : Int) := by
      have : pa.length < L.length := by rw [← hL]; simp
      rw [wrap64 (by omega) (by omega)]; rfl
    have hin : (bif decide (t.kind = 1) then innerA t u [] suf' else true) = true := by cases decide (t.kind = 1) <;> cases suf' <;> rfl
    rw [ref08_Alike_l1_eq]
    simp only [go_sem, Nat.reduceAdd, Nat.reduceLeDiff, Nat.reduceSub, Nat.reduceMul, Nat.reduceEqDiff, Int.reduceEq, Int.reduceLT, Int.reduceLE, Int.reduceAdd, Int.reduceSub, Int.reduceNeg, Int.reduceGT, Int.reduceGE, Int.reduceNe, ne_eq, not_false_eq_true, e0, f3, K, hin, Bool.true_and]
  | a :: suf, suf', pre, pre', i, h, g, hi, hpp => by
    subst hi
    cases suf' with
    | nil =>
      have h1 := congrArg List.length h
      have h2 := congrArg List.length g
      simp only [List.length_append, List.length_nil, List.length_cons] at h1 h2
      omega
    | cons b suf' =>
      have hlt : pre.length < pa.length := by rw [← h]; simp
      obtain ⟨-, f2, f3⟩ := step_facts (pre := pre) (t := a) (suf := suf ++ t :: X) hx (by rw [← hL, ← h]; simp) (by omega) (tnd_len a) (by decide)
      obtain ⟨-, g2, -⟩ := step_facts (pre := pre') (t := b) (suf := suf' ++ u :: Y) hy (by rw [← hM, ← g]; simp) (by omega) (tnd_len b) (by decide)
      rw [hpp] at g2
      have e0 : decide ((pre.length : Int) < (pa.length : Int)) = true := decide_eq_true (by omega)
      have ih := alike_l1 L M pa pb X Y t u x y hx hy hL hM hp hl hm r s K suf suf' (pre ++ [a]) (pre' ++ [b]) (pre.length + 1) (by simpa using h) (by simpa using g) (by simp) (by simp [hpp])
      rw [ref08_Alike_l1_eq]
      rw [Ty.cells_eq, Ty.cells_eq] at ih ⊢
      simp only [go_sem, Nat.reduceAdd, Nat.reduceLeDiff, Nat.reduceSub, Nat.reduceMul, Nat.reduceEqDiff, Int.reduceEq, Int.reduceLT, Int.reduceLE, Int.reduceAdd, Int.reduceSub, Int.reduceNeg, Int.reduceGT, Int.reduceGE, Int.reduceNe, ne_eq, not_false_eq_true] at ih
      simp only [go_sem, Nat.reduceAdd, Nat.reduceLeDiff, Nat.reduceSub, Nat.reduceMul, Nat.reduceEqDiff, Int.reduceEq, Int.reduceLT, Int.reduceLE, Int.reduceAdd, Int.reduceSub, Int.reduceNeg, Int.reduceGT, Int.reduceGE, Int.reduceNe, ne_eq, not_false_eq_true, e0, f2, f3, g2, tnd, TNode.enc, TNode.cells, Dec.cells_len, Exp.cells_len, Pat.cells_len, Ty.cells_eq, ih]
      have f4 : IntKind.i64.wrap ((pa.length : Int) + 1) = ((pa.length + 1 : Nat) : Int) := by
        have : pa.length < L.length := by rw [← hL]; simp
        rw [wrap64 (by omega) (by omega)]; rfl
      have hin : innerA t u (a :: suf) (b :: suf') = (!(decide (a.kind = 1) && !(decide (a.n = t.n) == decide (b.n = u.n))) && innerA t u suf suf') := rfl
      rw [f4, K, hin]
      cases decide (t.kind = 1) with
      | false => simp [ifR]
      | true =>
        simp only [ifR_true, cond_true]
        cases (decide (a.kind = 1) && !(decide (a.n = t.n) == decide (b.n = u.n))) <;> rfl
theorem alike_l0 (L M : List Ty) (x y : Slot) (hx : x.list? = some (L.map tnd)) (hy : y.list? = some (M.map tnd)) (he : L.length = M.length) (hl : L.length < 2^40) (s : St) : ∀ (X Y pa pb : List Ty) (i : Nat), pa ++ X = L → pb ++ Y = M → i = pa.length → pb.length = pa.length →
    ref08_Alike_l0 x y (.val (.int .i64 i)) s = some (.ret (.val (.bool (alikeL pa pb X Y))), s)
  | [], Y, pa, pb, i, h, g, hi, hp => by
    subst hi
    rw [ref08_Alike_l0_eq]; simp only [go_sem, Nat.reduceAdd, Nat.reduceLeDiff, Nat.reduceSub, Nat.reduceMul, Nat.reduceEqDiff, Int.reduceEq, Int.reduceLT, Int.reduceLE, Int.reduceAdd, Int.reduceSub, Int.reduceNeg, Int.reduceGT, Int.reduceGE, Int.reduceNe, ne_eq, not_false_eq_true, hx, end_facts (by simpa using h), alikeL]
  | t :: X, Y, pa, pb, i, h, g, hi, hp => by
    subst hi
    cases Y with
    | nil =>
      have h1 := congrArg List.length h
      have h2 := congrArg List.length g
      simp only [List.length_append, List.length_nil, List.length_cons] at h1 h2
      omega
    | cons u Y =>
      obtain ⟨f1, f2, f3⟩ := step_facts hx h (by omega) (tnd_len t) (by decide)
      obtain ⟨-, g2, -⟩ := step_facts hy g (by omega) (tnd_len u) (by decide)
      rw [hp] at g2
      have ih := alike_l0 L M x y hx hy he hl s X Y (pa ++ [t]) (pb ++ [u]) (pa.length + 1) (by simpa using h) (by simpa using g) (by simp) (by simp [hp])
      have e1 := alike_l1 L M pa pb X Y t u x y hx hy h g hp.symm hl (by omega) _ s ih pa pb [] [] 0 rfl rfl rfl rfl
      rw [show ((0 : Nat) : Int) = 0 from rfl] at e1
      rw [ref08_Alike_l0_eq]
      rw [Ty.cells_eq, Ty.cells_eq] at e1
      simp only [go_sem, Nat.reduceAdd, Nat.reduceLeDiff, Nat.reduceSub, Nat.reduceMul, Nat.reduceEqDiff, Int.reduceEq, Int.reduceLT, Int.reduceLE, Int.reduceAdd, Int.reduceSub, Int.reduceNeg, Int.reduceGT, Int.reduceGE, Int.reduceNe, ne_eq, not_false_eq_true] at e1
      simp only [go_sem, Nat.reduceAdd, Nat.reduceLeDiff, Nat.reduceSub, Nat.reduceMul, Nat.reduceEqDiff, Int.reduceEq, Int.reduceLT, Int.reduceLE, Int.reduceAdd, Int.reduceSub, Int.reduceNeg, Int.reduceGT, Int.reduceGE, Int.reduceNe, ne_eq, not_false_eq_true, hx, f1, f2, g2, tnd, TNode.enc, TNode.cells, Dec.cells_len, Exp.cells_len, Pat.cells_len, Ty.cells_eq, e1]
      have hlen : decide ((t.args.length : Int) = (u.args.length : Int)) = decide (t.args.length = u.args.length) := by rw [decide_eq_decide]; omega
      have hst : alikeL pa pb (t :: X) (u :: Y) = (decide (t.kind = u.kind) && decide (t.name = u.name) && decide (t.args.length = u.args.length) && (decide (t.kind = 1) || decide (t.n = u.n)) && (bif decide (t.kind = 1) then innerA t u pa pb else true) && alikeL (pa ++ [t]) (pb ++ [u]) X Y) := rfl
      rw [hlen, hst]
      generalize (bif decide (t.kind = 1) then innerA t u pa pb else true) = q
      cases decide (t.kind = u.kind) <;> cases decide (t.name = u.name) <;> cases decide (t.args.length = u.args.length) <;> cases decide (t.kind = 1) <;> cases decide (t.n = u.n) <;> rfl
theorem ref08_Alike_spec (t u : Ty) (s : St) (h : t.size < 2^28) (g : u.size < 2^28) : Ret (cw (.f F_ref08_Alike) [t.enc, u.enc] s) s (.bool (alikeB t u)) := by
  obtain ⟨x, s1, e1, a1⟩ := ofTy_pre t s h
  obtain ⟨y, s2, e2, a2⟩ := ofTy_pre u s1 g
  have hx := a1.list?
  have hy := a2.list?
  have gr := a1.grew.trans a2.grew
  rw [ref08_Alike_eq]
  simp only [go_sem, Nat.reduceAdd, Nat.reduceLeDiff, Nat.reduceSub, Nat.reduceMul, Nat.reduceEqDiff, Int.reduceEq, Int.reduceLT, Int.reduceLE, Int.reduceAdd, Int.reduceSub, Int.reduceNeg, Int.reduceGT, Int.reduceGE, Int.reduceNe, ne_eq, not_false_eq_true, Ty.enc] at e1 e2 ⊢
  simp only [go_sem, Nat.reduceAdd, Nat.reduceLeDiff, Nat.reduceSub, Nat.reduceMul, Nat.reduceEqDiff, Int.reduceEq, Int.reduceLT, Int.reduceLE, Int.reduceAdd, Int.reduceSub, Int.reduceNeg, Int.reduceGT, Int.reduceGE, Int.reduceNe, ne_eq, not_false_eq_true, e1, e2, hx, hy, List.length_map, preTy_len]
  by_cases he : t.size = u.size
  · have e3 := alike_l0 (preTy t) (preTy u) x y hx hy (by rw [preTy_len, preTy_len, he]) (by rw [preTy_len]; omega) s2 (preTy t) (preTy u) [] [] 0 rfl rfl rfl rfl
    rw [show ((0 : Nat) : Int) = 0 from rfl] at e3
    simp only [go_sem, Nat.reduceAdd, Nat.reduceLeDiff, Nat.reduceSub, Nat.reduceMul, Nat.reduceEqDiff, Int.reduceEq, Int.reduceLT, Int.reduceLE, Int.reduceAdd, Int.reduceSub, Int.reduceNeg, Int.reduceGT, Int.reduceGE, Int.reduceNe, ne_eq, not_false_eq_true, decide_eq_true (show (t.size : Int) = u.size by omega), e3]
    unfold alikeB
    rw [decide_eq_true he, Bool.true_and]
    exact ⟨_, rfl, gr⟩
  · simp only [go_sem, Nat.reduceAdd, Nat.reduceLeDiff, Nat.reduceSub, Nat.reduceMul, Nat.reduceEqDiff, Int.reduceEq, Int.reduceLT, Int.reduceLE, Int.reduceAdd, Int.reduceSub, Int.reduceNeg, Int.reduceGT, Int.reduceGE, Int.reduceNe, ne_eq, not_false_eq_true, decide_eq_false (show ¬ (t.size : Int) = u.size by omega)]
    unfold alikeB
    rw [decide_eq_false he, Bool.false_and]
    exact ⟨_, rfl, gr⟩
/-! ### the law -/
theorem canons_l1 (t u : Ty) (ht : t.size ≤ 2^20) (hu : u.size ≤ 2^20) (gt : allTy goodB t = true) (gu : allTy goodB u = true) (x6 x8 : Slot) (h6 : x6.list? = some ((canonTy t).2.map ekI)) (h8 : x8.list? = some ((canonTy u).2.map ekI)) (N : Nat) (hN : N < 2^40) (s0 : St) : ∀ (d i : Nat) (s : St), i + d = N → Grew s0 s →
    Ret (law08_TyCanons_l1 (t.cells.map .val) (u.cells.map .val) ((canonTy t).1.cells.map .val) x6 ((canonTy u).1.cells.map .val) x8 (.val (encS true ((rangeI N).map ekI))) (.val (.int .i64 i)) s) s0 (.bool true)
  | 0, i, s, h, g => by
    have hi : i = N := by omega
    subst hi
    have e0 : decide ((i : Int) < (i : Int)) = false := by simp
    have hc := canonTy_size t
    have hcu := canonTy_size u
    have e1 := ty_Same_spec (canonTy t).1 (wide_of_size _ (by omega)) (canonTy u).1 s
    obtain ⟨s2, e2, g2⟩ := ref08_Alike_spec t u s (by omega) (by omega)
    have e3 := ty_Same_spec (canonTy t).1 (wide_of_size _ (by omega)) (canonTy u).1 s2
    obtain ⟨hal, hle⟩ := canon_alike t u gt gu
    rw [hal] at e1 e3 hle
    obtain ⟨s4, e4, g4⟩ := law08_knows_spec s2
    rw [law08_TyCanons_l1_eq]
    simp only [Ty.enc] at e1 e2 e3
    have hb : (alikeB t u == alikeB t u) = true := by simp
    simp only [go_sem, Nat.reduceAdd, Nat.reduceLeDiff, Nat.reduceSub, Nat.reduceMul, Nat.reduceEqDiff, Int.reduceEq, Int.reduceLT, Int.reduceLE, Int.reduceAdd, Int.reduceSub, Int.reduceNeg, Int.reduceGT, Int.reduceGE, Int.reduceNe, ne_eq, not_false_eq_true, List.length_map, rangeI_len, e0, e1, e2, e3, e4, hb, h6, h8]
    cases ha : alikeB t u with
    | false => simp only [go_sem, Nat.reduceAdd, Nat.reduceLeDiff, Nat.reduceSub, Nat.reduceMul, Nat.reduceEqDiff, Int.reduceEq, Int.reduceLT, Int.reduceLE, Int.reduceAdd, Int.reduceSub, Int.reduceNeg, Int.reduceGT, Int.reduceGE, Int.reduceNe, ne_eq, not_false_eq_true, e4]; exact ⟨_, rfl, (g.trans g2).trans g4⟩
    | true =>
      have hl := hle ha
      simp only [go_sem, Nat.reduceAdd, Nat.reduceLeDiff, Nat.reduceSub, Nat.reduceMul, Nat.reduceEqDiff, Int.reduceEq, Int.reduceLT, Int.reduceLE, Int.reduceAdd, Int.reduceSub, Int.reduceNeg, Int.reduceGT, Int.reduceGE, Int.reduceNe, ne_eq, not_false_eq_true, decide_eq_true (show ((canonTy t).2.length : Int) = ((canonTy u).2.length : Int) by omega), e4]
      exact ⟨_, rfl, (g.trans g2).trans g4⟩
  | d + 1, i, s, h, g => by
    have hi : i < N := by omega
    have e0 : decide ((i : Int) < (N : Int)) = true := decide_eq_true (by omega)
    have f2 : ixS 1 (.val (encS true ((rangeI N).map ekI))) (.val (.int .i64 (i : Int))) = some (.val (.cp [.int .i64 i])) := ixS_get (v := ekI i) (list?_encS _ _) (by simp [rangeI, hi]) rfl (by decide)
    have f3 : IntKind.i64.wrap ((i : Int) + 1) = ((i + 1 : Nat) : Int) := by rw [wrap64 (by omega) (by omega)]; rfl
    have ih := canons_l1 t u ht hu gt gu x6 x8 h6 h8 N hN s0 d (i + 1) s (by omega) g
    rw [law08_TyCanons_l1_eq]
    simp only [go_sem, Nat.reduceAdd, Nat.reduceLeDiff, Nat.reduceSub, Nat.reduceMul, Nat.reduceEqDiff, Int.reduceEq, Int.reduceLT, Int.reduceLE, Int.reduceAdd, Int.reduceSub, Int.reduceNeg, Int.reduceGT, Int.reduceGE, Int.reduceNe, ne_eq, not_false_eq_true, List.length_map, rangeI_len, e0, f2, f3, decide_eq_true (Eq.refl (i : Int))]
    exact ih
theorem canons_l0 (t u : Ty) (ht : t.size ≤ 2^20) (hu : u.size ≤ 2^20) (gt : allTy goodB t = true) (gu : allTy goodB u = true) (v8 : AV) (h8 : (Slot.val v8).list? = some ((canonTy u).2.map ekI)) (s0 : St) : ∀ (suf pre : List Int) (x : Slot) (s : St) (i : Nat), pre ++ suf = (canonTy t).2 → i = pre.length → AccH T_Ty s0.toks.length [] s x ((pre.map tvar).map Ty.enc) → Moves [] [] [] s0 s →
    Ret (law08_TyCanons_l0 (t.cells.map .val) (u.cells.map .val) ((canonTy t).1.cells.map .val) (.val (encS true ((canonTy t).2.map ekI))) ((canonTy u).1.cells.map .val) (.val v8) ((canonTy t).1.cells.map .val) (.val (encS true ((rangeI (canonTy t).2.length).map ekI))) x (.val (.int .i64 i)) s) s0 (.bool true)
  | [], pre, x, s, i, h, hi, hA, hM => by
    subst hi
    have hlen := chCanon_len t []
    simp only [List.length_nil] at hlen
    have hlen' : (canonTy t).2.length ≤ t.size := by show (chTy toCanon t []).2.length ≤ _; omega
    have hpv : pre = (canonTy t).2 := by simpa using h
    have hc := canonTy_size t
    have e1 := ty_Same_spec (canonTy t).1 (wide_of_size _ (by omega)) (canonTy t).1 s
    rw [eqTy_refl] at e1
    have hw : ∀ w ∈ (canonTy t).2.map tvar, WideTy w := fun w hw => by
      obtain ⟨m, _, rfl⟩ := List.mem_map.1 hw
      exact wide_tvar _
    obtain ⟨s2, e2, g2⟩ := ty_Put_spec (canonTy t).1 ((canonTy t).2.map tvar) true s (wide_of_size _ (by omega)) (by simp; omega) hw
    have e3 := ty_Same_spec (putTy (canonTy t).1 ((canonTy t).2.map tvar)) (wide_put _ _ (wide_of_size _ (by omega)) hw) t s2
    rw [canon_back t gt] at e3
    obtain ⟨s4, e4, g4⟩ := ty_Vars_spec t s2 (by omega)
    have e5 := ref08_SameInts_spec (canonTy t).2 (canonTy t).2 (encS true ((canonTy t).2.map ekI)) (encS true ((canonTy t).2.map ekI)) (list?_encS _ _) (list?_encS _ _) (by omega) s4
    rw [decide_eq_true rfl] at e5
    have e6 := canons_l1 t u ht hu gt gu (.val (encS true ((canonTy t).2.map ekI))) (.val v8) (list?_encS _ _) h8 (canonTy t).2.length (by omega) s0 (canonTy t).2.length 0 s4 (by omega) ((hM.toGrew.trans g2).trans g4)
    have hav := avs_cons hA.av []
    rw [hpv] at hav
    rw [law08_TyCanons_l0_eq]
    simp only [Ty.enc, List.map_map] at e1 e2 e3 e4 hav
    simp only [go_sem, Nat.reduceAdd, Nat.reduceLeDiff, Nat.reduceSub, Nat.reduceMul, Nat.reduceEqDiff, Int.reduceEq, Int.reduceLT, Int.reduceLE, Int.reduceAdd, Int.reduceSub, Int.reduceNeg, Int.reduceGT, Int.reduceGE, Int.reduceNe, ne_eq, not_false_eq_true, List.length_map, rangeI_len, end_facts hpv, e1, decide_eq_true (Eq.refl ((canonTy t).2.length : Int)), hav, e2, e3, e4, e5]
    exact e6
  | n :: suf, pre, x, s, i, h, hi, hA, hM => by
    subst hi
    have hlen := chCanon_len t []
    simp only [List.length_nil] at hlen
    have hlen' : (canonTy t).2.length ≤ t.size := by show (chTy toCanon t []).2.length ≤ _; omega
    have hlt : pre.length < (canonTy t).2.length := by rw [← h]; simp
    obtain ⟨f1, f2, f3⟩ := step_facts (f := ekI) (sz := 1) (x := .val (encS true ((canonTy t).2.map ekI))) (list?_encS _ _) h (by omega) rfl (by decide)
    obtain ⟨x1, s2, e2, a2, m2, -, -, -⟩ := tyAcc (A0 := []) (h0 := []) (h := []) (s0 := s0) (B := [tvar n]) (y := .full [(tvar n).enc]) hA hM (by simp) rfl (by simp; omega)
    have ih := canons_l0 t u ht hu gt gu v8 h8 s0 suf (pre ++ [n]) x1 s2 (pre.length + 1) (by simpa using h) (by simp) (by rw [List.map_append]; exact a2) m2
    rw [law08_TyCanons_l0_eq]
    simp only [ekI] at f2
    simp only [go_sem, Nat.reduceAdd, Nat.reduceLeDiff, Nat.reduceSub, Nat.reduceMul, Nat.reduceEqDiff, Int.reduceEq, Int.reduceLT, Int.reduceLE, Int.reduceAdd, Int.reduceSub, Int.reduceNeg, Int.reduceGT, Int.reduceGE, Int.reduceNe, ne_eq, not_false_eq_true, Ty.enc, tvar] at e2
    simp only [go_sem, Nat.reduceAdd, Nat.reduceLeDiff, Nat.reduceSub, Nat.reduceMul, Nat.reduceEqDiff, Int.reduceEq, Int.reduceLT, Int.reduceLE, Int.reduceAdd, Int.reduceSub, Int.reduceNeg, Int.reduceGT, Int.reduceGE, Int.reduceNe, ne_eq, not_false_eq_true, List.length_map, f1, f2, f3, ekI, e2]
    exact ih
theorem law08_TyCanons_spec (t u : Ty) (s : St) (ht : t.size ≤ 2^20) (hu : u.size ≤ 2^20) (hn : NamesTy t) (hn' : NamesTy u) : Ret (cw (.f F_law08_TyCanons) [t.enc, u.enc] s) s (.bool true) := by
  obtain ⟨s1, e1, g1⟩ := ref08_Formed_spec t s (by omega) hn
  obtain ⟨s2, e2, g2⟩ := ref08_Formed_spec u s1 (by omega) hn'
  rw [law08_TyCanons_eq]
  simp only [Ty.enc] at e1 e2
  cases gt : allTy goodB t with
  | false =>
    rw [gt] at e1
    obtain ⟨s4, e4, g4⟩ := law08_knows_spec s1
    simp only [go_sem, Nat.reduceAdd, Nat.reduceLeDiff, Nat.reduceSub, Nat.reduceMul, Nat.reduceEqDiff, Int.reduceEq, Int.reduceLT, Int.reduceLE, Int.reduceAdd, Int.reduceSub, Int.reduceNeg, Int.reduceGT, Int.reduceGE, Int.reduceNe, ne_eq, not_false_eq_true, Ty.enc, e1, e4]
    exact ⟨_, rfl, g1.trans g4⟩
  | true =>
    rw [gt] at e1
    cases gu : allTy goodB u with
    | false =>
      rw [gu] at e2
      obtain ⟨s4, e4, g4⟩ := law08_knows_spec s2
      simp only [go_sem, Nat.reduceAdd, Nat.reduceLeDiff, Nat.reduceSub, Nat.reduceMul, Nat.reduceEqDiff, Int.reduceEq, Int.reduceLT, Int.reduceLE, Int.reduceAdd, Int.reduceSub, Int.reduceNeg, Int.reduceGT, Int.reduceGE, Int.reduceNe, ne_eq, not_false_eq_true, Ty.enc, e1, e2, e4]
      exact ⟨_, rfl, (g1.trans g2).trans g4⟩
    | true =>
      rw [gu] at e2
      have hc := canonTy_size t
      obtain ⟨s3, e3, g3⟩ := ty_Canon_spec t s2 (by omega)
      obtain ⟨s4, e4, g4⟩ := ty_Canon_spec u s3 (by omega)
      obtain ⟨s5, e5, g5⟩ := ty_Canon_spec (canonTy t).1 s4 (by omega)
      rw [canon_again t] at e5
      obtain ⟨s6, e6, g6⟩ := canons_l0 t u ht hu gt gu (encS true ((canonTy u).2.map ekI)) (list?_encS _ _) s5 (canonTy t).2 [] (.val .nils) s5 0 rfl rfl (.nil _ _ _ _) (.refl _ _ _)
      rw [show ((0 : Nat) : Int) = 0 from rfl] at e6
      simp only [Ty.enc] at e3 e4 e5
      simp only [go_sem, Nat.reduceAdd, Nat.reduceLeDiff, Nat.reduceSub, Nat.reduceMul, Nat.reduceEqDiff, Int.reduceEq, Int.reduceLT, Int.reduceLE, Int.reduceAdd, Int.reduceSub, Int.reduceNeg, Int.reduceGT, Int.reduceGE, Int.reduceNe, ne_eq, not_false_eq_true, Ty.enc, e1, e2, e3, e4, e5]
      exact ⟨s6, e6, ((((g1.trans g2).trans g3).trans g4).trans g5).trans g6⟩
theorem law08_TyCanons_row {k0 k1 : Nat} (a : Ty) (ga : GTy k0 a) (b : Ty) (gb : GTy k1 b) (hb : k0 + (k1 + 0) ≤ 1048576) : Ret (cw (.f F_law08_TyCanons) [a.enc, b.enc] st0) st0 (.bool true) :=
  law08_TyCanons_spec a b st0 (by have := ga.1; omega) (by have := gb.1; omega) (ga.2 0) (gb.2 0)
end Go.Proofs.Ytfkihppbbeonkaa
